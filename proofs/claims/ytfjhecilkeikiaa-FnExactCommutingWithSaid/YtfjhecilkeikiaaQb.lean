import Derived.Test.YtfjhecilkeikiaaBa
import Derived.Test.YtfjhecilkeikiaaPu
import Derived.Test.YtfjhecilkeikiaaSl
import Derived.Test.YtfjhecilkeikiaaProg
import Derived.Test.YtfjhecilkeikiaaWl
import Derived.Test.YtfjhecilkeikiaaWp
import Derived.Test.YtfjhecilkeikiaaWt
import Derived.Test.YtfjhecilkeikiaaT3
import Derived.Test.YtfjhecilkeikiaaTs
import Derived.Test.YtfjhecilkeikiaaTn
import Derived.Test.YtfjhecilkeikiaaTu
import Derived.Test.YtfjhecilkeikiaaSy
import Derived.Test.YtfjhecilkeikiaaSz
import Derived.Test.YtfjhecilkeikiaaSx
import Derived.Test.YtfjhecilkeikiaaPp
import Derived.Test.YtfjhecilkeikiaaPn
import Derived.Test.YtfjhecilkeikiaaVt
import Derived.Test.YtfjhecilkeikiaaSr
import Derived.Test.YtfjhecilkeikiaaQl
import Derived.Test.YtfjhecilkeikiaaPt
import Derived.Test.YtfjhecilkeikiaaQp
import Derived.Test.YtfjhecilkeikiaaQs
import Derived.Test.YtfjhecilkeikiaaQn
import Derived.Test.YtfjhecilkeikiaaQw
import Derived.Test.YtfjhecilkeikiaaQt
import Derived.Test.YtfjhecilkeikiaaQq
import Derived.Test.YtfjhecilkeikiaaQr
import Derived.Test.YtfjhecilkeikiaaQx
import Derived.Test.YtfjhecilkeikiaaQy
import Derived.Test.YtfjhecilkeikiaaQu
import Derived.Test.YtfjhecilkeikiaaSq
import Derived.Deep.LoopGhost
import Derived.Deep.RegionHeld3
import Derived.Deep.QuietTactic
import Derived.BigQuiet
/- SmallPairs: both, and the law. -/
namespace Go.Proofs.Ytfjhecilkeikiaa.N
open Go.RowKit
set_option linter.unusedVariables false
set_option linter.unusedSimpArgs false

def GivesPS (w : World) (xs : List (ByteArray × ByteArray)) (b : Bool) (e : Ending) (w' : World) : Prop := ∃ v, e = .returned (.tuple #[v, .bool b]) ∧ w'.ownsRow w.heap.size 28 2 v xs.length (psT xs) ∧ Ext w w'
def tps (l : List TP) : List (ByteArray × ByteArray) := l.map fun p => (tx p.1, tx p.2)
theorem tps_length (l : List TP) : (tps l).length = l.length := by simp [tps]

set_option maxHeartbeats 3200000 in
theorem specSP_yes (n : Nat) (hn : n ≤ 3) (w : World) : Calls Try.prog 21 #[.int .i64 n] w (GivesPS w (tps (smallP n)) true) := by
  have CT := Lib.hid (cjSmall_calls n hn)
  have CI := Lib.hid (fun W => l1In_calls (n : Int) 0 3 W)
  rw [decide_eq_true (show (0 : Int) ≤ n ∧ (n : Int) ≤ 3 by omega)] at CI
  have EL : Hid ((tps (smallP n)).length = (smallP n).length) := tps_length _
  have EP : Hid (psT (tps (smallP n)) = psP (smallP n)) := rfl
  generalize tps (smallP n) = T at *
  generalize smallP n = R at *
  go_enter Try.func21, Try.ntmps21
  go_wp2_with fail
  refine (CI.out _).mono ?_
  rintro e w0 ⟨rfl, rfl⟩
  go_wp2_with fail
  refine (CT.out _).mono ?_
  rintro e w1 ⟨v, rfl, o, x⟩
  have O := Lib.hid o
  have X := Lib.hid x
  clear o x
  go_wp2_with fail
  go_ret2
  exact ⟨_, rfl, (by rw [EL.out, EP.out]; exact O.out), X.out⟩
set_option maxHeartbeats 3200000 in
theorem specSP_no (n : Int) (hn : ¬ (0 ≤ n ∧ n ≤ 3)) (w : World) : Calls Try.prog 21 #[.int .i64 n] w (GivesPS w [] false) := by
  have CI := Lib.hid (fun W => l1In_calls n 0 3 W)
  rw [decide_eq_false hn] at CI
  clear hn
  go_enter Try.func21, Try.ntmps21
  go_wp2_with fail
  refine (CI.out _).mono ?_
  rintro e w0 ⟨rfl, rfl⟩
  go_wp2_with fail
  go_ret2
  exact ⟨_, rfl, World.ownsRow_nil _ _ _ _, Ext.refl _⟩

set_option maxHeartbeats 3200000 in
theorem implSP_yes (n : Nat) (hn : n ≤ 3) (w : World) : Calls Try.prog 22 #[.int .i64 n] w (GivesPS w (tps (smallP n)) true) := by
  have CT := Lib.hid (small_calls n hn)
  have h1 : ¬ ((n : Int) < 0) := by omega
  have h2 : ¬ ((3 : Int) < n) := by omega
  have h3 : (n : Int) ≤ 3 := by omega
  have EL : Hid ((tps (smallP n)).length = (smallP n).length) := tps_length _
  have EP : Hid (psT (tps (smallP n)) = psP (smallP n)) := rfl
  generalize tps (smallP n) = T at *
  generalize smallP n = R at *
  go_enter Try.func22, Try.ntmps22
  go_wp2_with fail
  refine (CT.out _).mono ?_
  rintro e w1 ⟨v, rfl, o, x⟩
  have O := Lib.hid o
  have X := Lib.hid x
  clear o x
  go_wp2_with fail
  go_ret2
  exact ⟨_, rfl, (by rw [EL.out, EP.out]; exact O.out), X.out⟩
set_option maxHeartbeats 3200000 in
theorem implSP_no (n : Int) (hn : ¬ (0 ≤ n ∧ n ≤ 3)) (w : World) : Calls Try.prog 22 #[.int .i64 n] w (GivesPS w [] false) := by
  by_cases h0 : n < 0
  · clear hn
    go_enter Try.func22, Try.ntmps22
    go_wp2_with fail
    go_ret2
    exact ⟨_, rfl, World.ownsRow_nil _ _ _ _, Ext.refl _⟩
  · have h1 : 3 < n := by omega
    have h2 : 0 ≤ n := by omega
    clear hn
    go_enter Try.func22, Try.ntmps22
    go_wp2_with fail
    go_ret2
    exact ⟨_, rfl, World.ownsRow_nil _ _ _ _, Ext.refl _⟩

theorem both_SP (n : Int) : ∃ (xs : List (ByteArray × ByteArray)) (b : Bool), xs.length < 10000 ∧ (∀ w, Calls Try.prog 21 #[.int .i64 n] w (GivesPS w xs b)) ∧ (∀ w, Calls Try.prog 22 #[.int .i64 n] w (GivesPS w xs b)) := by
  by_cases h : 0 ≤ n ∧ n ≤ 3
  · obtain ⟨m, rfl⟩ : ∃ m : Nat, n = m := ⟨n.toNat, by omega⟩
    refine ⟨_, _, ?_, specSP_yes m (by omega), implSP_yes m (by omega)⟩
    rw [tps_length]
    have := smallP_le (m + 1) (by omega)
    have e : (List.range (m + 1)).flatMap prs = smallP m := rfl
    rw [e] at this
    omega
  · exact ⟨[], false, by simp, specSP_no n h, implSP_no n h⟩
set_option maxHeartbeats 6400000 in
set_option maxRecDepth 100000 in
theorem walk_FnExactSmallPairs (n : Int) (hn : (Lit.int IntKind.i64 n).wf = true) (w : World) :
    Calls Try.prog 6 #[.int .i64 n] w fun e w' => e = .returned (.bool true) ∧ Ext w w' := by
  obtain ⟨xs, b, LN, C1, C2⟩ := both_SP n
  have LN := Lib.hid LN
  have C1 := Lib.hid C1
  have C2 := Lib.hid C2
  clear hn
  cases b
  all_goals
    go_enter Try.func6, Try.ntmps6
    go_wp2_with fail
    refine (C1.out _).mono ?_
    rintro e w6 ⟨v1, rfl, o1, x1⟩
    have X3 := Lib.hid x1
    have O1 := Lib.hid o1
    clear o1 x1
    go_wp2_with fail
    refine (C2.out _).mono ?_
    rintro e w7 ⟨v2, rfl, o2, x2⟩
    have X67 := Lib.hid x2
    have O2 := Lib.hid o2
    clear o2 x2
    go_wp2_with fail
    refine (eqPairS_calls xs (by have := LN.out; omega) _ _ v2 v1 _ O2.out (row_ext O1.out X67.out)).mono ?_
    rintro e w8 ⟨rfl, x8⟩
    go_wp2_with fail
    refine (markPairS_calls w6.heap.size xs.length (psT xs) 1 (by omega) (by have := LN.out; omega) v2 _ (row_ext O2.out x8)).mono ?_
    rintro e w9 ⟨rfl, o4, g4⟩
    obtain ⟨q, hq⟩ : ∃ q : Int, ((1 + 2 * xs.length : Nat) : Int) = q := ⟨_, rfl⟩
    have p5 : (0 : Int) ≤ q := by omega
    have HQ := Lib.hid hq
    rw [hq]
    clear hq
    have X69 := Lib.hid ((X67.out.trans x8).grown g4 (fun k hk => (World.ownsRow.lt O2.out k hk).1))
    have R1 := Lib.hid (row_ext O1.out X69.out)
    have O4 := Lib.hid o4
    clear o4 g4 x8
    go_wp2_with fail
    refine (heldPairS_calls _ xs.length 1 (by omega) (by have := LN.out; omega) v2 _ O4.out).mono ?_
    rintro e w10 ⟨rfl, x10⟩
    have X610 := Lib.hid (X69.out.trans x10)
    have R1 := Lib.hid (row_ext R1.out x10)
    have O4 := Lib.hid (row_ext O4.out x10)
    clear x10
    rw [HQ.out]
    go_wp2_with fail
    refine (C2.out _).mono ?_
    rintro e w11 ⟨v6, rfl, o6, x5⟩
    have R1 := Lib.hid (row_ext R1.out x5)
    have O4 := Lib.hid (row_ext O4.out x5)
    have O6 := Lib.hid o6
    have X611 := Lib.hid (X610.out.trans x5)
    clear x5 o6
    go_wp2_with fail
    refine (eqPairS_calls xs (by have := LN.out; omega) _ _ v6 v1 _ O6.out R1.out).mono ?_
    rintro e w12 ⟨rfl, x12⟩
    have O4 := Lib.hid (row_ext O4.out x12)
    have X612 := Lib.hid (X611.out.trans x12)
    clear x12
    go_wp2_with fail
    refine (heldPairS_calls _ xs.length 1 (by omega) (by have := LN.out; omega) v2 _ O4.out).mono ?_
    rintro e w13 ⟨rfl, x13⟩
    have X13 := Lib.hid ((X3.out.trans X612.out).trans x13)
    clear x13
    rw [HQ.out]
    go_wp2_with fail
    go_ret
    exact ⟨rfl, X13.out⟩
end Go.Proofs.Ytfjhecilkeikiaa.N
