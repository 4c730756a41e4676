import Derived.Test.YtfkjjmmoipcddaaBa
import Derived.Test.YtfkjjmmoipcddaaPu
import Derived.Test.YtfkjjmmoipcddaaSl
import Derived.Test.YtfkjjmmoipcddaaProg
import Derived.Test.YtfkjjmmoipcddaaTn
import Derived.Test.YtfkjjmmoipcddaaTs
import Derived.Test.YtfkjjmmoipcddaaPp
import Derived.Test.YtfkjjmmoipcddaaPg
import Derived.Test.YtfkjjmmoipcddaaPh
import Derived.Test.YtfkjjmmoipcddaaWl
import Derived.Test.YtfkjjmmoipcddaaTp
import Derived.Test.YtfkjjmmoipcddaaTr
import Derived.Test.YtfkjjmmoipcddaaTu
import Derived.Test.YtfkjjmmoipcddaaTv
import Derived.Test.YtfkjjmmoipcddaaTw
import Derived.Test.YtfkjjmmoipcddaaTg
import Derived.Test.YtfkjjmmoipcddaaSz
import Derived.Test.YtfkjjmmoipcddaaSw
import Derived.Test.YtfkjjmmoipcddaaTk
import Derived.Test.YtfkjjmmoipcddaaCl
import Derived.Test.YtfkjjmmoipcddaaCw
import Derived.Test.YtfkjjmmoipcddaaWp
import Derived.Test.YtfkjjmmoipcddaaWq
import Derived.Test.YtfkjjmmoipcddaaAc
import Derived.Test.YtfkjjmmoipcddaaAw
import Derived.Test.YtfkjjmmoipcddaaRw
import Derived.Test.YtfkjjmmoipcddaaPn
import Derived.Test.YtfkjjmmoipcddaaPt
import Derived.Test.YtfkjjmmoipcddaaLp
import Derived.Test.YtfkjjmmoipcddaaLc
import Derived.Deep.LoopGhost
import Derived.Deep.RegionHeld3
import Derived.Deep.QuietTactic
import Derived.StillTailTactics
import Derived.BigQuiet
/- LeastConjugate of the program. -/
namespace Go.Proofs.Ytfkjjmmoipcddaa.N
open Go.RowKit
set_option linter.unusedVariables false
set_option linter.unusedSimpArgs false

set_option maxHeartbeats 6400000 in
set_option maxRecDepth 100000 in
theorem implLC_yes (A B : Tr) (hc : A.carets = B.carets) (hB : B.carets ≤ 8) (m : Nat) (hm : m ≤ 4) (w : World) :
    Calls Try.prog 54 #[.agg #[.string (tx A), .string (tx B)], .int .i64 m] w fun e w' => e = .returned (pb (tx (leastA (A, B) (m + 1)).1) (tx (leastA (A, B) (m + 1)).2) true) ∧ Ext w w' := by
  obtain ⟨X2, _, t1, _⟩ := boxP_facts w (tx A) (tx B)
  have X2 := Lib.hid X2
  have C1 := Lib.hid (fun W => pairOf_yes A B hc hB W)
  have C0 := Lib.hid (fun W => isMost_calls m W)
  rw [decide_eq_true (show (0 : Int) ≤ m ∧ (m : Int) ≤ 4 by omega)] at C0
  have C2 := Lib.hid (fun pa pb W => reduced_calls A B (by omega) (by omega) pa pb W)
  have hs : Hid ((red (A, B)).1.carets = (red (A, B)).2.carets ∧ (red (A, B)).2.carets ≤ 8) := ⟨red_same (p := (A, B)) hc, by have := (red_le (A, B)).2; simp only at this; omega⟩
  have HL : Hid (∀ k, leastA (A, B) (k + 1) = (runW gL k [] (red (A, B)) (leastA (A, B) k)).1) := fun k => by rw [runW_least]; rfl
  have H0 : Hid (leastA (A, B) 0 = red (A, B)) := rfl
  have HF : Hid (∀ k s, (runW gL k [] (red (A, B)) s).2 = false) := fun k s => by rw [runW_least]
  have hm' : (m : Int) ≤ 4 := by omega
  generalize leastA (A, B) = L at *
  generalize hp : red (A, B) = p0 at *
  generalize tx A = a at *
  generalize tx B = b at *
  clear hc hB hp
  go_enter Try.func54, Try.ntmps54
  go_wp2_with fail
  generalize (w.alloc (.cells #[.string a, .string b] 29)).alloc (.cells #[.string ⟨#[]⟩, .string ⟨#[]⟩] 29) = W at *
  refine (C1.out _).mono ?_
  rintro e w1 ⟨p1, p2, rfl, rA, rB, x1⟩
  have xa := (Ext.refl w1).alloc (.cells #[.pointer p1, .pointer p2] 78)
  have RA := Lib.hid (rA.ext xa)
  have RB := Lib.hid (rB.ext xa)
  have X1 := Lib.hid (X2.out.trans (x1.trans xa))
  have T1 := Lib.hid (t1.ext (x1.trans xa))
  have B5 := Lib.hid (heap_alloc_new w1 (.cells #[.pointer p1, .pointer p2] 78))
  have G5 := Lib.hid (X2.out.trans x1).size
  obtain ⟨d0, d1⟩ := cells_of B5.out
  clear rA rB t1 x1 xa
  go_wp2_with fail
  generalize w1.alloc (.cells #[.pointer p1, .pointer p2] 78) = W1 at *
  refine (C0.out _).mono ?_
  rintro e w2 ⟨rfl, rfl⟩
  go_wp2_with fail
  refine (C2.out p1 p2 _ RA.out RB.out).mono ?_
  rintro e w2 ⟨q1, q2, rfl, r1, r2, x2⟩
  have lt1 := (Array.getElem?_eq_some_iff.1 B5.out).1
  have lt2 := T1.out.lt
  have lt3 := x2.size
  have lt4 := X1.out.size
  have xb := (Ext.refl w2).alloc (.cells #[.pointer q1, .pointer q2] 78)
  have xx := x2.trans xb
  have X3 := Lib.hid (X1.out.trans xx)
  have T1 := Lib.hid (T1.out.ext xx)
  have B5 := Lib.hid (xx.at B5.out)
  have RA := Lib.hid (RA.out.ext xx)
  have RB := Lib.hid (RB.out.ext xx)
  have I3 : Hid (IL w2.heap.size p0 (w2.alloc (.cells #[.pointer q1, .pointer q2] 78))) := ⟨by have := hs.out; omega, by have := hs.out; omega, q1, q2, heap_alloc_new w2 _, r1.ext xb, r2.ext xb⟩
  have CS : Hid (w2.heap.size < (w2.alloc (.cells #[.pointer q1, .pointer q2] 78)).heap.size ∧ w.heap.size ≤ w2.heap.size ∧ w1.heap.size ≠ w2.heap.size ∧ w.heap.size + 1 ≠ w2.heap.size) := ⟨by simp, by omega, by omega, by omega⟩
  clear d0 d1 x2 r1 r2 xb xx X1 lt1 lt2 lt3 lt4
  generalize hcc : w2.heap.size = c at *
  have CB : Hid (∀ b0, c < b0 → Cb b0 c 113 #[.pointer (some ⟨c, 0, none⟩)] gL (IL c) (fun _ => True)) := fun b0 h => least_isCb b0 c h
  go_wp2_with fail
  generalize w2.alloc (.cells #[.pointer q1, .pointer q2] 78) = W2 at *
  go_loopw [27] (fun i wr => ∃ k : Nat, k ≤ m + 1 ∧ i = .int .i64 k ∧ Hid (IL c (L k) wr) ∧ Hid (wr.heap[w1.heap.size]? = some (.cells #[.pointer p1, .pointer p2] 78)) ∧ Hid (Two wr (w.heap.size + 1) 29) ∧ Hid (Rep wr A p1) ∧ Hid (Rep wr B p2) ∧ Hid (Ext w wr) ∧ Hid (c < wr.heap.size)) (fun i _ => m + 1 - (intOf i).toNat)
  case atStart => exact ⟨0, by omega, rfl, by rw [H0.out]; exact I3.out, B5.out, T1.out, RA.out, RB.out, X3.out, CS.out.1⟩
  case round =>
    obtain ⟨k, hk, rfl, HI, HB, HT, HRA, HRB, HX, HC⟩ := hrel
    obtain ⟨d0, d1⟩ := cells_of HB.out
    by_cases hlt : k < m + 1
    · have h0 : (0 : Int) ≤ k := by omega
      have h1 : (k : Int) < m + 1 := by omega
      go_wp2_with fail
      refine (C2.out p1 p2 _ HRA.out HRB.out).mono ?_
      rintro e w5 ⟨z1, z2, rfl, rz1, rz2, x5⟩
      have I5 := HI.out.ext x5
      have T5 := HT.out.ext x5
      have B5 := x5.at HB.out
      have R1 := HRA.out.ext x5
      have R2 := HRB.out.ext x5
      have X5 := HX.out.trans x5
      have WC := Lib.hid (words_calls (CB.out w5.heap.size (Nat.lt_of_lt_of_le HC.out x5.size)) k [] p0 (L k) (.slice none 0 0) z1 z2 w5 (by omega) (by simp; omega) hs.out.1 (by have := hs.out; omega) trivial I5 (Own.nil _ _ _) (Nat.le_refl _) rz1 rz2)
      rw [HF.out, ← HL.out] at WC
      have PK : Hid (∀ w6, Tch c none w5 w6 → w6.heap[w1.heap.size]? = some (.cells #[.pointer p1, .pointer p2] 78) ∧ Two w6 (w.heap.size + 1) 29 ∧ Rep w6 A p1 ∧ Rep w6 B p2 ∧ Ext w w6 ∧ c < w6.heap.size) := by
        intro w6 t6
        have nn : NotNode w5 c := let ⟨_, _, pa, pb, h, _⟩ := I5; ⟨_, _, _, h, by decide⟩
        refine ⟨t6.at_ B5 CS.out.2.2.1 (by simp), ?_, R1.tch t6 nn (fun k hk => by cases hk), R2.tch t6 nn (fun k hk => by cases hk), t6.toExt X5 CS.out.2.1 (fun i hi => by cases hi), Nat.lt_of_lt_of_le (Nat.lt_of_lt_of_le HC.out x5.size) t6.size⟩
        obtain ⟨u, v, e⟩ := T5.at_
        exact ⟨u, v, t6.at_ e CS.out.2.2.2 (by simp)⟩
      clear d0 d1 x5 I5 T5 B5 R1 R2 X5 rz1 rz2
      go_wp2_with fail
      refine WC.out.mono ?_
      rintro e w6 ⟨rfl, i6, _, t6⟩
      have I6 := Lib.hid i6
      have P6 := Lib.hid (PK.out w6 t6)
      clear i6 t6
      go_wp2_with fail
      exact ⟨⟨k + 1, by omega, by go_num, I6.out, P6.out.1, P6.out.2.1, P6.out.2.2.1, P6.out.2.2.2.1, P6.out.2.2.2.2.1, P6.out.2.2.2.2.2⟩, by simp [intOf]; omega⟩
    · have h1 : (m : Int) + 1 ≤ k := by omega
      obtain rfl : k = m + 1 := by omega
      obtain ⟨s1, s2, za, zb, hz, rz1, rz2⟩ := HI.out
      obtain ⟨e0, e1⟩ := cells_of hz
      have CP := Lib.hid (plain_calls (L (m + 1)).1 (L (m + 1)).2 (by omega) (by omega) za zb wr rz1 rz2)
      obtain ⟨rc, hrc⟩ : ∃ rc, tx (L (m + 1)).1 = rc := ⟨_, rfl⟩
      obtain ⟨rd, hrd⟩ : ∃ rd, tx (L (m + 1)).2 = rd := ⟨_, rfl⟩
      rw [hrc, hrd] at CP
      have HRC := Lib.hid hrc
      have HRD := Lib.hid hrd
      clear hrc hrd
      clear s1 s2 hz rz1 rz2 d0 d1 HI
      go_wp2_with fail
      refine CP.out.mono ?_
      rintro e w5 ⟨rfl, x5⟩
      have T1 := HT.out.ext x5
      obtain ⟨u, v, k0, k1, f0, f1⟩ := T1.facts
      have T1 := Lib.hid T1
      have X5 := Lib.hid (HX.out.trans x5)
      clear x5 e0 e1
      go_wp2_with fail
      have HH := set2_heap T1.out (.string rc) (.string rd)
      have XX := X5.out.set2 (g := w.heap.size + 1) (by omega) (.string rc) (.string rd)
      change bodyPost _ _ _ _ _ (N.set2 w5 (w.heap.size + 1) (.string rc) (.string rd))
      obtain ⟨hc0, hc1⟩ := cells_of HH
      generalize N.set2 w5 (w.heap.size + 1) (.string rc) (.string rd) = W3 at *
      exact bodyPost_ret (v := .tuple #[.agg #[.string rc, .string rd], .bool true]) (by simp [results, Try.results54, go_sem, hc0, hc1]) rfl ⟨by rw [HRC.out, HRD.out]; rfl, XX⟩
end Go.Proofs.Ytfkjjmmoipcddaa.N
