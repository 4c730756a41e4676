import Derived.Test.YtpmmajfdcicjiaaBa
import Derived.Test.YtpmmajfdcicjiaaPu
import Derived.Test.YtpmmajfdcicjiaaSl
import Derived.Test.YtpmmajfdcicjiaaProg
import Derived.Test.YtpmmajfdcicjiaaTn
import Derived.Test.YtpmmajfdcicjiaaTs
/- The first statements' functions: the program's and the reference's answer alike. -/
namespace Go.Proofs.Ytpmmajfdcicjiaa.N
open Go.RowKit
set_option linter.unusedVariables false
set_option linter.unusedSimpArgs false

theorem l1Most_calls (a b : Int) (w : World) :
    Calls Try.prog 121 #[.int .i64 a, .int .i64 b] w fun e w' => e = .returned (.int .i64 (if b < a then a else b)) ∧ w = w' := by
  by_cases h : b < a
  · rw [if_pos h]
    go_enter Try.func121, Try.ntmps121
    go_wp2_with fail
    go_ret
    exact ⟨rfl, rfl⟩
  · rw [if_neg h]
    go_enter Try.func121, Try.ntmps121
    go_wp2_with fail
    go_ret
    exact ⟨rfl, rfl⟩

theorem specCountRotations_yes (T : Tr) (hT : T.carets ≤ 8) (w : World) :
    Calls Try.prog 43 #[.string (tx T)] w fun e w' => e = .returned (.tuple #[.int .i64 ((T.carets - 1 : Nat) : Int), .bool true]) ∧ Ext w w' := by
  have C1 := Lib.hid (trIs_yes T hT w)
  have z := tx_size T
  have C2 := trCarets_calls (tx T) (by omega) w
  rw [tx, S_toList, cnt_txt] at C2
  have C2 := Lib.hid C2
  have b : 0 ≤ (T.carets : Int) ∧ (T.carets : Int) ≤ 8 := by omega
  clear z hT
  go_enter Try.func43, Try.ntmps43
  go_wp2_with fail
  refine (C1.out).mono ?_
  rintro e w1 ⟨rfl, rfl⟩
  go_wp2_with fail
  refine (C2.out).mono ?_
  rintro e w1 ⟨rfl, rfl⟩
  go_wp2_with fail
  refine (l1Most_calls _ _ _).mono ?_
  rintro e w1 ⟨rfl, rfl⟩
  go_wp2_with fail
  all_goals go_ret2
  all_goals exact ⟨ret2_int (by omega), Ext.refl _⟩
theorem specCountRotations_no (s : ByteArray) (hT : ¬ ∃ T, s = tx T ∧ T.carets ≤ 8) (w : World) :
    Calls Try.prog 43 #[.string s] w fun e w' => e = .returned (.tuple #[.int .i64 0, .bool false]) ∧ Ext w w' := by
  have C1 := Lib.hid (trIs_no s hT w)
  clear hT
  go_enter Try.func43, Try.ntmps43
  go_wp2_with fail
  refine (C1.out).mono ?_
  rintro e w1 ⟨rfl, rfl⟩
  go_wp2_with fail
  go_ret2
  exact ⟨rfl, Ext.refl _⟩
section
attribute [local go_sem] max2_i max_two_
theorem implCountRotations_yes (T : Tr) (hT : T.carets ≤ 8) (w : World) :
    Calls Try.prog 42 #[.string (tx T)] w fun e w' => e = .returned (.tuple #[.int .i64 ((T.carets - 1 : Nat) : Int), .bool true]) ∧ Ext w w' := by
  have C1 := Lib.hid (parse_yes T w hT)
  have b : 0 ≤ (T.carets : Int) ∧ (T.carets : Int) ≤ 8 := by omega
  have C2 := fun p w h => Lib.hid (carets_calls T p w (by omega) h)
  clear hT
  go_enter Try.func42, Try.ntmps42
  go_wp2_with fail
  refine (C1.out).mono ?_
  rintro e w1 ⟨p, rfl, hp, hx⟩
  have H := Lib.hid (And.intro hp hx)
  clear hp hx
  go_wp2_with fail
  refine ((C2 _ _ H.out.1).out).mono ?_
  rintro e w1 ⟨rfl, n, rfl⟩
  go_wp2_with fail
  all_goals go_ret2
  all_goals exact ⟨ret2_int (by omega), H.out.2.drewN _⟩
theorem implCountRotations_no (s : ByteArray) (hT : ¬ ∃ T, s = tx T ∧ T.carets ≤ 8) (w : World) :
    Calls Try.prog 42 #[.string s] w fun e w' => e = .returned (.tuple #[.int .i64 0, .bool false]) ∧ Ext w w' := by
  have C1 := Lib.hid (parse_no s w hT)
  clear hT
  go_enter Try.func42, Try.ntmps42
  go_wp2_with fail
  refine (C1.out).mono ?_
  rintro e w1 ⟨rfl, hx⟩
  go_wp2_with fail
  go_ret2
  exact ⟨rfl, hx⟩
end

