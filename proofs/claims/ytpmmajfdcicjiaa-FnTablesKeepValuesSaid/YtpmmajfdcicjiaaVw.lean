import Derived.Test.YtpmmajfdcicjiaaBa
import Derived.Test.YtpmmajfdcicjiaaPu
import Derived.Test.YtpmmajfdcicjiaaSl
import Derived.Test.YtpmmajfdcicjiaaProg
import Derived.Test.YtpmmajfdcicjiaaWl
import Derived.Test.YtpmmajfdcicjiaaWt
import Derived.Test.YtpmmajfdcicjiaaWu
import Derived.Test.YtpmmajfdcicjiaaVt
import Derived.Test.YtpmmajfdcicjiaaVu
import Derived.Deep.LoopGhost
import Derived.Deep.QuietTactic
import Derived.BigQuiet
/- Tables that are associative, the first three that are not: both functions and the laws. -/
namespace Go.Proofs.Ytpmmajfdcicjiaa.N
open Go.RowKit
set_option linter.unusedVariables false
set_option linter.unusedSimpArgs false

def GivesBB (w : World) (a b : Bool) (e : Ending) (w' : World) : Prop := e = .returned (.tuple #[.bool a, .bool b]) ∧ Ext w w'
theorem specAssoc_yes (xss : List (List Int)) (hl : xss.length + total xss ≤ 1048576) (hT : Tab xss) (l : List Int) (hb : IsBrk xss.length (gOf xss) l) (v : Value) (w : World) (hv : ReadsM w v xss) :
    Calls Try.prog 14 #[v] w (GivesBB w (!decide (0 < l.length)) true) := by
  have C1 := Lib.hid (brTable_calls xss hl v w hv)
  rw [decide_eq_true hT] at C1
  have C2 := Lib.hid (brBroken_calls xss.length (gOf xss) (fun i j => gOf_lt hT) hT.1.2 l hb v w (hv.tab hT))
  clear hb hT hv
  unfold GivesBB
  generalize decide (0 < l.length) = b at *
  go_enter Try.func14, Try.ntmps14
  go_wp2_with fail
  refine C1.out.mono ?_
  rintro e w1 ⟨rfl, rfl⟩
  go_wp2_with fail
  refine C2.out.mono ?_
  rintro e w1 ⟨u, rfl, ou, x1⟩
  have X1 := Lib.hid x1
  clear ou x1
  go_wp2_with fail
  go_ret2
  exact ⟨rfl, X1.out⟩
theorem specAssoc_no (xss : List (List Int)) (hl : xss.length + total xss ≤ 1048576) (hT : ¬ Tab xss) (v : Value) (w : World) (hv : ReadsM w v xss) :
    Calls Try.prog 14 #[v] w (GivesBB w false false) := by
  have C1 := Lib.hid (brTable_calls xss hl v w hv)
  rw [decide_eq_false hT] at C1
  clear hT hv
  unfold GivesBB
  go_enter Try.func14, Try.ntmps14
  go_wp2_with fail
  refine C1.out.mono ?_
  rintro e w1 ⟨rfl, rfl⟩
  go_wp2_with fail
  go_ret2
  exact ⟨rfl, Ext.refl _⟩
theorem implAssoc_yes (xss : List (List Int)) (hl : xss.length + total xss ≤ 1048576) (hT : Tab xss) (l : List Int) (hb : IsBrk xss.length (gOf xss) l) (v : Value) (w : World) (hv : ReadsM w v xss) :
    Calls Try.prog 13 #[v] w (GivesBB w (!decide (0 < l.length)) true) := by
  have C1 := Lib.hid (isTable_calls xss hl v w hv)
  rw [decide_eq_true hT] at C1
  have C2 := Lib.hid (broken_calls xss.length (gOf xss) (fun i j => gOf_lt hT) hT.1.2 l hb v w (hv.tab hT))
  clear hb hT hv
  have EB : Hid ((((l.length : Nat) : Int) == 0) = !decide (0 < l.length)) := by
    show _ = _
    cases l with
    | nil => rfl
    | cons a l => simp; omega
  unfold GivesBB
  generalize decide (0 < l.length) = b at *
  go_enter Try.func13, Try.ntmps13
  go_wp2_with fail
  refine C1.out.mono ?_
  rintro e w1 ⟨rfl, rfl⟩
  go_wp2_with fail
  refine C2.out.mono ?_
  rintro e w1 ⟨u, rfl, ou, x1⟩
  have X1 := Lib.hid x1
  obtain ⟨A, c, rfl, _, _⟩ := ou.reads
  rw [ints_length]
  clear ou x1
  go_wp2_with fail
  go_ret2
  exact ⟨by rw [← EB.out]; rfl, X1.out⟩
theorem implAssoc_no (xss : List (List Int)) (hl : xss.length + total xss ≤ 1048576) (hT : ¬ Tab xss) (v : Value) (w : World) (hv : ReadsM w v xss) :
    Calls Try.prog 13 #[v] w (GivesBB w false false) := by
  have C1 := Lib.hid (isTable_calls xss hl v w hv)
  rw [decide_eq_false hT] at C1
  clear hT hv
  unfold GivesBB
  go_enter Try.func13, Try.ntmps13
  go_wp2_with fail
  refine C1.out.mono ?_
  rintro e w1 ⟨rfl, rfl⟩
  go_wp2_with fail
  go_ret2
  exact ⟨rfl, Ext.refl _⟩
theorem both_IsAssociative (xss : List (List Int)) (hl : xss.length + total xss ≤ 1048576) : ∃ a b, (∀ v w, ReadsM w v xss → Calls Try.prog 14 #[v] w (GivesBB w a b)) ∧ ∀ v w, ReadsM w v xss → Calls Try.prog 13 #[v] w (GivesBB w a b) := by
  by_cases hT : Tab xss
  · obtain ⟨l, hb⟩ := brk_exists xss.length (gOf xss)
    exact ⟨_, _, specAssoc_yes xss hl hT l hb, implAssoc_yes xss hl hT l hb⟩
  · exact ⟨_, _, specAssoc_no xss hl hT, implAssoc_no xss hl hT⟩

theorem specFB_yes (xss : List (List Int)) (hl : xss.length + total xss ≤ 1048576) (hT : Tab xss) (l : List Int) (hb : IsBrk xss.length (gOf xss) l) (v : Value) (w : World) (hv : ReadsM w v xss) :
    Calls Try.prog 16 #[v] w (GivesLI w l (decide (0 < l.length))) := by
  have C1 := Lib.hid (brTable_calls xss hl v w hv)
  rw [decide_eq_true hT] at C1
  have C2 := Lib.hid (brBroken_calls xss.length (gOf xss) (fun i j => gOf_lt hT) hT.1.2 l hb v w (hv.tab hT))
  clear hb hT hv
  unfold GivesLI
  generalize decide (0 < l.length) = b at *
  go_enter Try.func16, Try.ntmps16
  go_wp2_with fail
  refine C1.out.mono ?_
  rintro e w1 ⟨rfl, rfl⟩
  go_wp2_with fail
  refine C2.out.mono ?_
  rintro e w1 ⟨u, rfl, ou, x1⟩
  have X1 := Lib.hid (And.intro ou x1)
  clear ou x1
  go_wp2_with fail
  go_ret2
  exact ⟨u, rfl, X1.out.1, X1.out.2⟩
theorem specFB_no (xss : List (List Int)) (hl : xss.length + total xss ≤ 1048576) (hT : ¬ Tab xss) (v : Value) (w : World) (hv : ReadsM w v xss) :
    Calls Try.prog 16 #[v] w (GivesLI w [] false) := by
  have C1 := Lib.hid (brTable_calls xss hl v w hv)
  rw [decide_eq_false hT] at C1
  clear hT hv
  unfold GivesLI
  go_enter Try.func16, Try.ntmps16
  go_wp2_with fail
  refine C1.out.mono ?_
  rintro e w1 ⟨rfl, rfl⟩
  go_wp2_with fail
  go_ret2
  exact ⟨_, rfl, Own.nil _ _ _, Ext.refl _⟩
theorem implFB_yes (xss : List (List Int)) (hl : xss.length + total xss ≤ 1048576) (hT : Tab xss) (l : List Int) (hb : IsBrk xss.length (gOf xss) l) (v : Value) (w : World) (hv : ReadsM w v xss) :
    Calls Try.prog 15 #[v] w (GivesLI w l (decide (0 < l.length))) := by
  have C1 := Lib.hid (isTable_calls xss hl v w hv)
  rw [decide_eq_true hT] at C1
  have C2 := Lib.hid (broken_calls xss.length (gOf xss) (fun i j => gOf_lt hT) hT.1.2 l hb v w (hv.tab hT))
  clear hb hT hv
  unfold GivesLI
  go_enter Try.func15, Try.ntmps15
  go_wp2_with fail
  refine C1.out.mono ?_
  rintro e w1 ⟨rfl, rfl⟩
  go_wp2_with fail
  refine C2.out.mono ?_
  rintro e w1 ⟨u, rfl, ou, x1⟩
  have X1 := Lib.hid (And.intro ou x1)
  obtain ⟨A, c, rfl, _, _⟩ := ou.reads
  rw [ints_length] at *
  clear ou x1
  go_wp2_with fail
  go_ret2
  exact ⟨_, rfl, X1.out.1, X1.out.2⟩
theorem implFB_no (xss : List (List Int)) (hl : xss.length + total xss ≤ 1048576) (hT : ¬ Tab xss) (v : Value) (w : World) (hv : ReadsM w v xss) :
    Calls Try.prog 15 #[v] w (GivesLI w [] false) := by
  have C1 := Lib.hid (isTable_calls xss hl v w hv)
  rw [decide_eq_false hT] at C1
  clear hT hv
  unfold GivesLI
  go_enter Try.func15, Try.ntmps15
  go_wp2_with fail
  refine C1.out.mono ?_
  rintro e w1 ⟨rfl, rfl⟩
  go_wp2_with fail
  go_ret2
  exact ⟨_, rfl, Own.nil _ _ _, Ext.refl _⟩
theorem IsBrk.short {n : Nat} {g : Nat → Nat → Nat} {l : List Int} (h : IsBrk n g l) : l.length ≤ 3 := by
  rcases h with ⟨rfl, _⟩ | ⟨i, j, k, _, _, _, rfl, _⟩ <;> simp
theorem both_FirstBroken (xss : List (List Int)) (hl : xss.length + total xss ≤ 1048576) : ∃ l b, l.length ≤ 3 ∧ (∀ v w, ReadsM w v xss → Calls Try.prog 16 #[v] w (GivesLI w l b)) ∧ ∀ v w, ReadsM w v xss → Calls Try.prog 15 #[v] w (GivesLI w l b) := by
  by_cases hT : Tab xss
  · obtain ⟨l, hb⟩ := brk_exists xss.length (gOf xss)
    exact ⟨_, _, hb.short, specFB_yes xss hl hT l hb, implFB_yes xss hl hT l hb⟩
  · exact ⟨[], false, by simp, specFB_no xss hl hT, implFB_no xss hl hT⟩

