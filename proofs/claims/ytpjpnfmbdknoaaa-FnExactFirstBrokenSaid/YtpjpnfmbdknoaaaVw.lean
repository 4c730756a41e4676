import Derived.Test.YtpjpnfmbdknoaaaBa
import Derived.Test.YtpjpnfmbdknoaaaPu
import Derived.Test.YtpjpnfmbdknoaaaSl
import Derived.Test.YtpjpnfmbdknoaaaProg
import Derived.Test.YtpjpnfmbdknoaaaWl
import Derived.Test.YtpjpnfmbdknoaaaWt
import Derived.Test.YtpjpnfmbdknoaaaWu
import Derived.Test.YtpjpnfmbdknoaaaVt
import Derived.Test.YtpjpnfmbdknoaaaVu
import Derived.Deep.LoopGhost
import Derived.Deep.QuietTactic
import Derived.BigQuiet
/- Tables that are associative, the first three that are not: both functions and the laws. -/
namespace Go.Proofs.Ytpjpnfmbdknoaaa.N
open Go.RowKit
set_option linter.unusedVariables false
set_option linter.unusedSimpArgs false

def GivesBB (w : World) (a b : Bool) (e : Ending) (w' : World) : Prop := e = .returned (.tuple #[.bool a, .bool b]) ∧ Ext w w'
theorem specAssoc_yes (xss : List (List Int)) (hl : xss.length + total xss ≤ 1048576) (hT : Tab xss) (l : List Int) (hb : IsBrk xss.length (gOf xss) l) (v : Value) (w : World) (hv : ReadsM w v xss) :
    Calls Try.prog 23 #[v] w (GivesBB w (!decide (0 < l.length)) true) := by
  have C1 := Lib.hid (brTable_calls xss hl v w hv)
  rw [decide_eq_true hT] at C1
  have C2 := Lib.hid (brBroken_calls xss.length (gOf xss) (fun i j => gOf_lt hT) hT.1.2 l hb v w (hv.tab hT))
  clear hb hT hv
  unfold GivesBB
  generalize decide (0 < l.length) = b at *
  go_enter Try.func23, Try.ntmps23
  go_wp2_with fail
  refine C1.out.mono ?_
  rintro e w1 ⟨rfl, rfl⟩
  go_wp2_with fail
  refine C2.out.mono ?_
  rintro e w1 ⟨u, rfl, ou, x1⟩
  have X1 := Lib.hid x1
  clear ou x1
  go_wp2_with fail
  go_ret2
  exact ⟨rfl, X1.out⟩
theorem specAssoc_no (xss : List (List Int)) (hl : xss.length + total xss ≤ 1048576) (hT : ¬ Tab xss) (v : Value) (w : World) (hv : ReadsM w v xss) :
    Calls Try.prog 23 #[v] w (GivesBB w false false) := by
  have C1 := Lib.hid (brTable_calls xss hl v w hv)
  rw [decide_eq_false hT] at C1
  clear hT hv
  unfold GivesBB
  go_enter Try.func23, Try.ntmps23
  go_wp2_with fail
  refine C1.out.mono ?_
  rintro e w1 ⟨rfl, rfl⟩
  go_wp2_with fail
  go_ret2
  exact ⟨rfl, Ext.refl _⟩
theorem implAssoc_yes (xss : List (List Int)) (hl : xss.length + total xss ≤ 1048576) (hT : Tab xss) (l : List Int) (hb : IsBrk xss.length (gOf xss) l) (v : Value) (w : World) (hv : ReadsM w v xss) :
    Calls Try.prog 25 #[v] w (GivesBB w (!decide (0 < l.length)) true) := by
  have C1 := Lib.hid (isTable_calls xss hl v w hv)
  rw [decide_eq_true hT] at C1
  have C2 := Lib.hid (broken_calls xss.length (gOf xss) (fun i j => gOf_lt hT) hT.1.2 l hb v w (hv.tab hT))
  clear hb hT hv
  have EB : Hid ((((l.length : Nat) : Int) == 0) = !decide (0 < l.length)) := by
    show _ = _
    cases l with
    | nil => rfl
    | cons a l => simp; omega
  unfold GivesBB
  generalize decide (0 < l.length) = b at *
  go_enter Try.func25, Try.ntmps25
  go_wp2_with fail
  refine C1.out.mono ?_
  rintro e w1 ⟨rfl, rfl⟩
  go_wp2_with fail
  refine C2.out.mono ?_
  rintro e w1 ⟨u, rfl, ou, x1⟩
  have X1 := Lib.hid x1
  obtain ⟨A, c, rfl, _, _⟩ := ou.reads
  rw [ints_length]
  clear ou x1
  go_wp2_with fail
  go_ret2
  exact ⟨by rw [← EB.out]; rfl, X1.out⟩
theorem implAssoc_no (xss : List (List Int)) (hl : xss.length + total xss ≤ 1048576) (hT : ¬ Tab xss) (v : Value) (w : World) (hv : ReadsM w v xss) :
    Calls Try.prog 25 #[v] w (GivesBB w false false) := by
  have C1 := Lib.hid (isTable_calls xss hl v w hv)
  rw [decide_eq_false hT] at C1
  clear hT hv
  unfold GivesBB
  go_enter Try.func25, Try.ntmps25
  go_wp2_with fail
  refine C1.out.mono ?_
  rintro e w1 ⟨rfl, rfl⟩
  go_wp2_with fail
  go_ret2
  exact ⟨rfl, Ext.refl _⟩
theorem both_IsAssociative (xss : List (List Int)) (hl : xss.length + total xss ≤ 1048576) : ∃ a b, (∀ v w, ReadsM w v xss → Calls Try.prog 23 #[v] w (GivesBB w a b)) ∧ ∀ v w, ReadsM w v xss → Calls Try.prog 25 #[v] w (GivesBB w a b) := by
  by_cases hT : Tab xss
  · obtain ⟨l, hb⟩ := brk_exists xss.length (gOf xss)
    exact ⟨_, _, specAssoc_yes xss hl hT l hb, implAssoc_yes xss hl hT l hb⟩
  · exact ⟨_, _, specAssoc_no xss hl hT, implAssoc_no xss hl hT⟩

theorem specFB_yes (xss : List (List Int)) (hl : xss.length + total xss ≤ 1048576) (hT : Tab xss) (l : List Int) (hb : IsBrk xss.length (gOf xss) l) (v : Value) (w : World) (hv : ReadsM w v xss) :
    Calls Try.prog 27 #[v] w (GivesLI w l (decide (0 < l.length))) := by
  have C1 := Lib.hid (brTable_calls xss hl v w hv)
  rw [decide_eq_true hT] at C1
  have C2 := Lib.hid (brBroken_calls xss.length (gOf xss) (fun i j => gOf_lt hT) hT.1.2 l hb v w (hv.tab hT))
  clear hb hT hv
  unfold GivesLI
  generalize decide (0 < l.length) = b at *
  go_enter Try.func27, Try.ntmps27
  go_wp2_with fail
  refine C1.out.mono ?_
  rintro e w1 ⟨rfl, rfl⟩
  go_wp2_with fail
  refine C2.out.mono ?_
  rintro e w1 ⟨u, rfl, ou, x1⟩
  have X1 := Lib.hid (And.intro ou x1)
  clear ou x1
  go_wp2_with fail
  go_ret2
  exact ⟨u, rfl, X1.out.1, X1.out.2⟩
theorem specFB_no (xss : List (List Int)) (hl : xss.length + total xss ≤ 1048576) (hT : ¬ Tab xss) (v : Value) (w : World) (hv : ReadsM w v xss) :
    Calls Try.prog 27 #[v] w (GivesLI w [] false) := by
  have C1 := Lib.hid (brTable_calls xss hl v w hv)
  rw [decide_eq_false hT] at C1
  clear hT hv
  unfold GivesLI
  go_enter Try.func27, Try.ntmps27
  go_wp2_with fail
  refine C1.out.mono ?_
  rintro e w1 ⟨rfl, rfl⟩
  go_wp2_with fail
  go_ret2
  exact ⟨_, rfl, Own.nil _ _ _, Ext.refl _⟩
theorem implFB_yes (xss : List (List Int)) (hl : xss.length + total xss ≤ 1048576) (hT : Tab xss) (l : List Int) (hb : IsBrk xss.length (gOf xss) l) (v : Value) (w : World) (hv : ReadsM w v xss) :
    Calls Try.prog 28 #[v] w (GivesLI w l (decide (0 < l.length))) := by
  have C1 := Lib.hid (isTable_calls xss hl v w hv)
  rw [decide_eq_true hT] at C1
  have C2 := Lib.hid (broken_calls xss.length (gOf xss) (fun i j => gOf_lt hT) hT.1.2 l hb v w (hv.tab hT))
  clear hb hT hv
  unfold GivesLI
  go_enter Try.func28, Try.ntmps28
  go_wp2_with fail
  refine C1.out.mono ?_
  rintro e w1 ⟨rfl, rfl⟩
  go_wp2_with fail
  refine C2.out.mono ?_
  rintro e w1 ⟨u, rfl, ou, x1⟩
  have X1 := Lib.hid (And.intro ou x1)
  obtain ⟨A, c, rfl, _, _⟩ := ou.reads
  rw [ints_length] at *
  clear ou x1
  go_wp2_with fail
  go_ret2
  exact ⟨_, rfl, X1.out.1, X1.out.2⟩
theorem implFB_no (xss : List (List Int)) (hl : xss.length + total xss ≤ 1048576) (hT : ¬ Tab xss) (v : Value) (w : World) (hv : ReadsM w v xss) :
    Calls Try.prog 28 #[v] w (GivesLI w [] false) := by
  have C1 := Lib.hid (isTable_calls xss hl v w hv)
  rw [decide_eq_false hT] at C1
  clear hT hv
  unfold GivesLI
  go_enter Try.func28, Try.ntmps28
  go_wp2_with fail
  refine C1.out.mono ?_
  rintro e w1 ⟨rfl, rfl⟩
  go_wp2_with fail
  go_ret2
  exact ⟨_, rfl, Own.nil _ _ _, Ext.refl _⟩
theorem IsBrk.short {n : Nat} {g : Nat → Nat → Nat} {l : List Int} (h : IsBrk n g l) : l.length ≤ 3 := by
  rcases h with ⟨rfl, _⟩ | ⟨i, j, k, _, _, _, rfl, _⟩ <;> simp
theorem both_FirstBroken (xss : List (List Int)) (hl : xss.length + total xss ≤ 1048576) : ∃ l b, l.length ≤ 3 ∧ (∀ v w, ReadsM w v xss → Calls Try.prog 27 #[v] w (GivesLI w l b)) ∧ ∀ v w, ReadsM w v xss → Calls Try.prog 28 #[v] w (GivesLI w l b) := by
  by_cases hT : Tab xss
  · obtain ⟨l, hb⟩ := brk_exists xss.length (gOf xss)
    exact ⟨_, _, hb.short, specFB_yes xss hl hT l hb, implFB_yes xss hl hT l hb⟩
  · exact ⟨[], false, by simp, specFB_no xss hl hT, implFB_no xss hl hT⟩

set_option maxHeartbeats 3200000 in
theorem walk_FnExactIsAssociative (xss : List (List Int)) (hl : xss.length ≤ maxLen) (hr : ∀ xs ∈ xss, xs.length ≤ maxLen) (v : Value) (w : World) (hv : ReadsM w v xss) :
    Calls Try.prog 6 #[v] w fun e w' => e = .returned (.bool true) ∧ Ext w w' := by
  have C0 := Lib.hid (szIntSS_calls xss hl hr v w hv)
  have V := Lib.hid hv
  clear hl hr hv
  go_enter Try.func6, Try.ntmps6
  go_wp2_with fail
  refine C0.out.mono ?_
  rintro e w0 ⟨r, rfl, hr, rfl⟩
  have hr := Lib.hid hr.out
  by_cases hr0 : r < 0
  · go_wp2_with fail
    go_ret
    exact ⟨rfl, Ext.refl _⟩
  have HB := hr.out.2.2 (by omega)
  obtain ⟨a, b, C1, C2⟩ := both_IsAssociative xss HB
  have C1 := Lib.hid C1
  have C2 := Lib.hid C2
  have C3 := Lib.hid (fun w h => toIntSS_calls xss HB v w h)
  have C4 := Lib.hid (fun va vb w ha h => eqIntSS_calls xss HB va vb w ha h)
  clear HB
  go_wp2_with fail
  refine (C3.out _ V.out).mono ?_
  rintro e w1 ⟨u1, rfl, o1, x1⟩
  have X1 := Lib.hid x1
  have O1 := Lib.hid o1
  clear o1 x1
  go_wp2_with fail
  refine (C1.out _ _ O1.out.reads).mono ?_
  rintro e w2 ⟨rfl, x2⟩
  have X2 := Lib.hid (X1.out.trans x2)
  clear x2
  go_wp2_with fail
  refine (C3.out _ (V.out.ext X2.out)).mono ?_
  rintro e w3 ⟨u2, rfl, o2, x3⟩
  have X3 := Lib.hid (X2.out.trans x3)
  have O2 := Lib.hid o2
  clear o2 x3
  go_wp2_with fail
  refine (C2.out _ _ O2.out.reads).mono ?_
  rintro e w4 ⟨rfl, x4⟩
  have X4 := Lib.hid (X3.out.trans x4)
  have O2 := Lib.hid (O2.out.ext x4)
  clear x4
  cases a
  all_goals cases b
  all_goals
    go_wp2_with fail
    refine (C3.out _ (V.out.ext X4.out)).mono ?_
    rintro e w5 ⟨u3, rfl, o3, x5⟩
    have X5 := Lib.hid (X4.out.trans x5)
    have O2 := Lib.hid (O2.out.ext x5)
    have O3 := Lib.hid o3
    clear o3 x5
    go_wp2_with fail
    refine (C4.out _ _ _ O2.out.reads O3.out.reads).mono ?_
    rintro e w6 ⟨rfl, x6⟩
    have X6 := Lib.hid (X5.out.trans x6)
    clear x6
    go_wp2_with fail
    go_ret
    exact ⟨rfl, X6.out⟩

set_option maxHeartbeats 6400000 in
set_option maxRecDepth 100000 in
theorem walk_FnExactFirstBroken (xss : List (List Int)) (hl : xss.length ≤ maxLen) (hr : ∀ xs ∈ xss, xs.length ≤ maxLen) (v : Value) (w : World) (hv : ReadsM w v xss) :
    Calls Try.prog 7 #[v] w fun e w' => e = .returned (.bool true) ∧ Ext w w' := by
  have C0 := Lib.hid (szIntSS_calls xss hl hr v w hv)
  have V := Lib.hid hv
  clear hl hr hv
  go_enter Try.func7, Try.ntmps7
  go_wp2_with fail
  refine C0.out.mono ?_
  rintro e w0 ⟨r, rfl, hr, rfl⟩
  have hr := Lib.hid hr.out
  by_cases hr0 : r < 0
  · go_wp2_with fail
    go_ret
    exact ⟨rfl, Ext.refl _⟩
  have HB := hr.out.2.2 (by omega)
  obtain ⟨l, b, h3, C1, C2⟩ := both_FirstBroken xss HB
  have C1 := Lib.hid C1
  have C2 := Lib.hid C2
  have C3 := Lib.hid (fun w h => toIntSS_calls xss HB v w h)
  have C4 := Lib.hid (fun va vb w ha h => eqIntSS_calls xss HB va vb w ha h)
  have C5 := Lib.hid (fun va vb w ha h => eqIntS_calls l (by omega) va vb w ha h)
  have H3 := Lib.hid h3
  have HB := Lib.hid HB
  clear h3
  go_wp2_with fail
  refine (C3.out _ V.out).mono ?_
  rintro e w1 ⟨u1, rfl, o1, x1⟩
  have X1 := Lib.hid x1
  have O1 := Lib.hid o1
  clear o1 x1
  go_wp2_with fail
  refine (C1.out _ _ O1.out.reads).mono ?_
  rintro e w2 ⟨v1, rfl, p1, x2⟩
  have X2 := Lib.hid (X1.out.trans x2)
  have P1 := Lib.hid p1
  have Q1 : Hid (∀ k, v1.ownBlock = some k → k < w2.heap.size) := fun k hk => (p1.block k hk).2
  clear p1 x2 O1
  go_wp2_with fail
  refine (C3.out _ (V.out.ext X2.out)).mono ?_
  rintro e w3 ⟨u2, rfl, o2, x3⟩
  obtain ⟨us, o2, r2⟩ := o2
  have X3 := Lib.hid (X2.out.trans x3)
  have Y3 := Lib.hid x3
  have O2 := Lib.hid o2
  have R2 := Lib.hid r2
  have LT2 := Lib.hid (r2.lt)
  have LO2 : Hid (∀ u ∈ us, ∀ k, u.ownBlock = some k → w2.heap.size ≤ k) := by
    intro u hu k hk
    obtain ⟨i, hi, e⟩ := List.getElem_of_mem hu
    obtain ⟨u', hu', o'⟩ := r2.2.1 i (xss[i]'(by rw [← r2.1]; exact hi)) (List.getElem?_eq_getElem _)
    rw [List.getElem?_eq_getElem hi, e] at hu'
    cases hu'
    exact o'.lo k hk
  clear o2 x3 r2
  go_wp2_with fail
  refine (C2.out _ _ (OwnM.reads ⟨us, O2.out, R2.out⟩)).mono ?_
  rintro e w4 ⟨v2, rfl, p2, x4⟩
  have X4 := Lib.hid (X3.out.trans x4)
  have Y4 := Lib.hid (Y3.out.trans x4)
  have Z4 := Lib.hid x4
  have P2 := Lib.hid p2
  clear p2 x4
  go_wp2_with fail
  refine (C5.out v2 v1 _ P2.out.reads (P1.out.reads.ext Y4.out)).mono ?_
  rintro e w5 ⟨rfl, n5, rfl⟩
  have X5 := Lib.hid (X4.out.drewN n5)
  have Y5 := Lib.hid (Y4.out.drewN n5)
  have Z5 := Lib.hid (Z4.out.drewN n5)
  have P2 := Lib.hid (P2.out.ext ((Ext.refl _).drewN n5))
  generalize w4.drewN n5 = w5 at *
  clear Y4 X4 Z4
  cases b
  all_goals
    go_wp2_with fail
    refine (C3.out _ (V.out.ext X5.out)).mono ?_
    rintro e w6 ⟨u3, rfl, o3, x6⟩
    have X6 := Lib.hid (X5.out.trans x6)
    have Y6 := Lib.hid (Y5.out.trans x6)
    have Z6 := Lib.hid (Z5.out.trans x6)
    have P2 := Lib.hid (P2.out.ext x6)
    have O3 := Lib.hid o3
    clear o3 x6
    go_wp2_with fail
    refine (C4.out _ _ _ (OwnM.reads ⟨us, O2.out.ext Z6.out, R2.out.ext Z6.out⟩) O3.out.reads).mono ?_
    rintro e w7 ⟨rfl, x7⟩
    have X7 := Lib.hid (X6.out.trans x7)
    have Y7 := Lib.hid (Y6.out.trans x7)
    have Z7 := Lib.hid (Z6.out.trans x7)
    have P2 := Lib.hid (P2.out.ext x7)
    clear x7 O3
    go_wp2_with fail
    refine (markIntSS_calls w2.heap.size us xss 1 (by omega) (by have := HB.out; omega) (by have := HB.out; omega) u2 w7 (O2.out.ext Z7.out) (R2.out.ext Z7.out)).mono ?_
    rintro e w8 ⟨rfl, m8⟩
    obtain ⟨q, hq⟩ : ∃ q : Int, ((1 + total xss : Nat) : Int) = q := ⟨_, rfl⟩
    have p8 : ¬ q < 0 := by omega
    rw [hq]
    clear hq
    have X8 := Lib.hid (m8.ext X7.out (fun u hu k hk => Nat.le_trans X2.out.size (LO2.out u hu k hk)))
    have P2 := Lib.hid (m8.own (base := 0) P2.out LT2.out)
    have P1 := Lib.hid ((P1.out.ext Y7.out).same (w' := w8) (fun k hk => m8.block k (((P1.out.ext Y7.out).block k hk).2) (fun u hm e => by have := LO2.out u hm k e; have := Q1.out k hk; omega)))
    clear m8
    go_wp2_with fail
    refine (C5.out v2 v1 _ P2.out.reads P1.out.reads).mono ?_
    rintro e w9 ⟨rfl, n9, rfl⟩
    have X9 := Lib.hid (X8.out.drewN n9)
    have P1 := Lib.hid (P1.out.ext ((Ext.refl _).drewN n9))
    have P2 := Lib.hid (P2.out.ext ((Ext.refl _).drewN n9))
    generalize w8.drewN n9 = w9 at *
    go_wp2_with fail
    refine (markIntS_calls w3.heap.size (ints l) 1 (by omega) (by rw [ints_length]; have := H3.out; omega) v2 _ P2.out).mono ?_
    rintro e w10 ⟨rfl, p10, g10⟩
    rw [ints_length] at p10 ⊢
    obtain ⟨q2, hq⟩ : ∃ q : Int, ((1 + l.length : Nat) : Int) = q := ⟨_, rfl⟩
    have p5 : (0 : Int) ≤ q2 := by omega
    have HQ := Lib.hid hq
    rw [hq]
    clear hq
    have R1 := Lib.hid (P1.out.reads.far g10 (fun k hk e => by have a := P2.out.lo k hk; have b := Q1.out k e; have c := Y3.out.size; omega))
    have X10 := Lib.hid (X9.out.grown g10 (fun k hk => Nat.le_trans X3.out.size (P2.out.lo k hk)))
    have P2 := Lib.hid p10
    clear p10 g10 P1
    go_wp2_with fail
    refine (heldIntS_calls l.length 1 (by omega) (by have := H3.out; omega) v2 _ P2.out.reads).mono ?_
    rintro e w11 ⟨rfl, x11⟩
    have X11 := Lib.hid (X10.out.trans x11)
    have P2 := Lib.hid (P2.out.ext x11)
    have R1 := Lib.hid (R1.out.ext x11)
    clear x11
    rw [HQ.out]
    go_wp2_with fail
    refine (C3.out _ (V.out.ext X11.out)).mono ?_
    rintro e w12 ⟨u4, rfl, o4, x12⟩
    have X12 := Lib.hid (X11.out.trans x12)
    have O4 := Lib.hid o4
    have P2 := Lib.hid (P2.out.ext x12)
    have R1 := Lib.hid (R1.out.ext x12)
    clear o4 x12
    go_wp2_with fail
    refine (C2.out _ _ O4.out.reads).mono ?_
    rintro e w13 ⟨v3, rfl, p3, x13⟩
    have X13 := Lib.hid (X12.out.trans x13)
    have P2 := Lib.hid (P2.out.ext x13)
    have R1 := Lib.hid (R1.out.ext x13)
    have P3 := Lib.hid p3
    clear p3 x13
    go_wp2_with fail
    refine (C5.out v3 v1 _ P3.out.reads R1.out).mono ?_
    rintro e w14 ⟨rfl, n14, rfl⟩
    go_wp2_with fail
    refine (heldIntS_calls l.length 1 (by omega) (by have := H3.out; omega) v2 _ (P2.out.reads.ext ((Ext.refl _).drewN n14))).mono ?_
    rintro e w15 ⟨rfl, x15⟩
    have X15 := Lib.hid ((X13.out.drewN n14).trans x15)
    clear x15
    rw [HQ.out]
    go_wp2_with fail
    go_ret
    exact ⟨rfl, X15.out⟩
end Go.Proofs.Ytpjpnfmbdknoaaa.N
