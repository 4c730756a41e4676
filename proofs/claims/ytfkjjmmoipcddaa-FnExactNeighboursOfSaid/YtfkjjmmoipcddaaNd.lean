import Derived.Test.YtfkjjmmoipcddaaBa
import Derived.Test.YtfkjjmmoipcddaaPu
import Derived.Test.YtfkjjmmoipcddaaSl
import Derived.Test.YtfkjjmmoipcddaaProg
import Derived.Test.YtfkjjmmoipcddaaTn
import Derived.Test.YtfkjjmmoipcddaaTs
import Derived.Test.YtfkjjmmoipcddaaT2
import Derived.Test.YtfkjjmmoipcddaaT3
import Derived.Test.YtfkjjmmoipcddaaT4
import Derived.Test.YtfkjjmmoipcddaaWl
import Derived.Test.YtfkjjmmoipcddaaVv
import Derived.Test.YtfkjjmmoipcddaaPn
import Derived.Test.YtfkjjmmoipcddaaNb
import Derived.Test.YtfkjjmmoipcddaaLy
import Derived.Test.YtfkjjmmoipcddaaSn
import Derived.Test.YtfkjjmmoipcddaaNc
import Derived.Deep.LoopGhost
/- The law of NeighboursOf. -/
namespace Go.Proofs.Ytfkjjmmoipcddaa.N
open Go.RowKit
set_option linter.unusedVariables false
set_option linter.unusedSimpArgs false

theorem specNear_yes (T : Tr) (hT : T.carets ≤ 8) (w : World) :
    Calls Try.prog 32 #[.string (tx T)] w (GivesLS w (nearS T) true) := by
  have C1 := Lib.hid (trIs_yes T hT w)
  have C2 := Lib.hid (brNear_calls T (by omega) w)
  clear hT
  go_enter Try.func32, Try.ntmps32
  go_wp2_with fail
  refine (C1.out).mono ?_
  rintro e w1 ⟨rfl, rfl⟩
  go_wp2_with fail
  refine (C2.out).mono ?_
  rintro e w1 ⟨v, rfl, o, x⟩
  go_wp2_with fail
  go_ret2
  exact ⟨v, rfl, o, x⟩
theorem specNear_no (s : ByteArray) (hT : ¬ ∃ T, s = tx T ∧ T.carets ≤ 8) (w : World) :
    Calls Try.prog 32 #[.string s] w (GivesLS w [] false) := by
  have C1 := Lib.hid (trIs_no s hT w)
  clear hT
  go_enter Try.func32, Try.ntmps32
  go_wp2_with fail
  refine (C1.out).mono ?_
  rintro e w1 ⟨rfl, rfl⟩
  go_wp2_with fail
  go_ret2
  exact ⟨_, rfl, Own.nil _ _ _, Ext.refl _⟩
theorem implNear_yes (T : Tr) (hT : T.carets ≤ 8) (w : World) :
    Calls Try.prog 33 #[.string (tx T)] w (GivesLS w (nearS T) true) := by
  have C1 := Lib.hid (parse_yes T w hT)
  have C2 := fun p w h => neighbours_calls T (by omega) p w h
  have CL : Hid (T.carets < 1000000) := by show _ < _; omega
  have NL : Hid ((nearS T).length < 1000000) := by show _ < _; unfold nearS; rw [srt_length, List.length_map]; have := near0_length T; omega
  clear hT
  go_enter Try.func33, Try.ntmps33
  go_wp2_with fail
  refine C1.out.mono ?_
  rintro e w1 ⟨p, rfl, hp, hx⟩
  have H := Lib.hid (And.intro hp hx)
  clear hp hx
  go_wp2_with fail
  refine (C2 _ _ H.out.1).mono ?_
  rintro e w2 ⟨v, Us, ps, rfl, o, r, hu, hc, x⟩
  have H2 := Lib.hid (And.intro o (And.intro r (And.intro hu (And.intro hc x))))
  clear o r x hu hc
  go_wp2_with fail
  refine (textsOf_calls Us ps v _ (by have := NL.out; rw [← H2.out.2.2.1, List.length_map] at this; exact this) (fun U hU => by rw [H2.out.2.2.2.1 U hU]; exact CL.out) H2.out.1.reads H2.out.2.1).mono ?_
  rintro e w1 ⟨v3, rfl, o3, x3⟩
  go_wp2_with fail
  go_ret2
  have x := H.out.2.trans H2.out.2.2.2.2
  exact ⟨v3, rfl, by rw [← H2.out.2.2.1]; exact o3.mono x.size, x.trans x3⟩
theorem implNear_no (s : ByteArray) (hT : ¬ ∃ T, s = tx T ∧ T.carets ≤ 8) (w : World) :
    Calls Try.prog 33 #[.string s] w (GivesLS w [] false) := by
  have C1 := Lib.hid (parse_no s w hT)
  clear hT
  go_enter Try.func33, Try.ntmps33
  go_wp2_with fail
  refine (C1.out).mono ?_
  rintro e w1 ⟨rfl, x⟩
  go_wp2_with fail
  go_ret2
  exact ⟨_, rfl, Own.nil _ _ _, x⟩

theorem walk_FnExactNeighboursOf (s : ByteArray) (hs : s.size ≤ maxLen) (w : World) :
    Calls Try.prog 7 #[.string s] w fun e w' => e = .returned (.bool true) ∧ Ext w w' := by
  unfold maxLen at hs
  by_cases hb : (1048576 : Int) < s.size
  · go_enter Try.func7, Try.ntmps7
    go_wp2_with fail
    go_ret
    exact ⟨rfl, Ext.refl _⟩
  by_cases hT : ∃ T, s = tx T ∧ T.carets ≤ 8
  · obtain ⟨T, rfl, hT⟩ := hT
    have C1 := fun w => specNear_yes T hT w
    have C2 := fun w => implNear_yes T hT w
    have LN : Hid ((nearS T).length < 10000000) := by
      show _ < _; unfold nearS; rw [srt_length, List.length_map]; have := near0_length T; omega
    clear hT
    generalize nearS T = xs at *
    go_enter Try.func7, Try.ntmps7
    go_wp2_with fail
    refine (C1 _).mono ?_
    rintro e w1 ⟨v1, rfl, o1, x1⟩
    have O1 := Lib.hid o1
    have X1 := Lib.hid x1
    clear o1 x1
    go_wp2_with fail
    refine (C2 _).mono ?_
    rintro e w2 ⟨v2, rfl, o2, x2⟩
    have O2 := Lib.hid o2
    have X2 := Lib.hid x2
    clear o2 x2
    go_wp2_with fail
    refine (eqStringS_calls xs (by have := LN.out; omega) v2 v1 _ O2.out.reads (O1.out.reads.ext X2.out)).mono ?_
    rintro e w3 ⟨rfl, n3, rfl⟩
    go_wp2_with fail
    refine (markStringS_calls w1.heap.size (strs xs) 1 (by omega) (by rw [strs_length]; have := LN.out; omega) v2 _ (O2.out.ext ((Ext.refl _).drewN _))).mono ?_
    rintro e w4 ⟨rfl, o4, g4⟩
    rw [strs_length] at o4 ⊢
    obtain ⟨q, hq⟩ : ∃ q : Int, ((1 + xs.length : Nat) : Int) = q := ⟨_, rfl⟩
    have p5 : (0 : Int) ≤ q := by omega
    have HQ := Lib.hid hq
    rw [hq]
    clear hq
    have R1 := Lib.hid (((O1.out.reads.ext X2.out).ext ((Ext.refl _).drewN n3)).far g4 (fun k hk e => by have a := O2.out.lo k hk; have b := (O1.out.block k e).2; omega))
    have X4 := Lib.hid (((X1.out.trans X2.out).drewN n3).grown g4 (fun k hk => Nat.le_trans X1.out.size (O2.out.lo k hk)))
    have O4 := Lib.hid o4
    clear o4 g4
    go_wp2_with fail
    refine (heldStringS_calls xs.length 1 (by omega) (by have := LN.out; omega) v2 _ O4.out.reads).mono ?_
    rintro e w5 ⟨rfl, x5⟩
    have X5 := Lib.hid x5
    clear x5
    rw [HQ.out]
    go_wp2_with fail
    refine (C2 _).mono ?_
    rintro e w6 ⟨v6, rfl, o6, x6⟩
    have O6 := Lib.hid o6
    have X6 := Lib.hid x6
    clear o6 x6
    go_wp2_with fail
    refine (eqStringS_calls xs (by have := LN.out; omega) v6 v1 _ O6.out.reads ((R1.out.ext X5.out).ext X6.out)).mono ?_
    rintro e w7 ⟨rfl, n7, rfl⟩
    go_wp2_with fail
    refine (heldStringS_calls xs.length 1 (by omega) (by have := LN.out; omega) v2 _ (((O4.out.reads.ext X5.out).ext X6.out).ext ((Ext.refl _).drewN n7))).mono ?_
    rintro e w8 ⟨rfl, x8⟩
    have X8 := Lib.hid x8
    clear x8
    rw [HQ.out]
    go_wp2_with fail
    go_ret
    exact ⟨rfl, (((X4.out.trans X5.out).trans X6.out).drewN n7).trans X8.out⟩
  · have C1 := fun w => specNear_no s hT w
    have C2 := fun w => implNear_no s hT w
    have LN : Hid (([] : List ByteArray).length < 10000000) := by show _ < _; simp
    clear hT
    generalize ([] : List ByteArray) = xs at *
    go_enter Try.func7, Try.ntmps7
    go_wp2_with fail
    refine (C1 _).mono ?_
    rintro e w1 ⟨v1, rfl, o1, x1⟩
    have O1 := Lib.hid o1
    have X1 := Lib.hid x1
    clear o1 x1
    go_wp2_with fail
    refine (C2 _).mono ?_
    rintro e w2 ⟨v2, rfl, o2, x2⟩
    have O2 := Lib.hid o2
    have X2 := Lib.hid x2
    clear o2 x2
    go_wp2_with fail
    refine (eqStringS_calls xs (by have := LN.out; omega) v2 v1 _ O2.out.reads (O1.out.reads.ext X2.out)).mono ?_
    rintro e w3 ⟨rfl, n3, rfl⟩
    go_wp2_with fail
    refine (markStringS_calls w1.heap.size (strs xs) 1 (by omega) (by rw [strs_length]; have := LN.out; omega) v2 _ (O2.out.ext ((Ext.refl _).drewN _))).mono ?_
    rintro e w4 ⟨rfl, o4, g4⟩
    rw [strs_length] at o4 ⊢
    obtain ⟨q, hq⟩ : ∃ q : Int, ((1 + xs.length : Nat) : Int) = q := ⟨_, rfl⟩
    have p5 : (0 : Int) ≤ q := by omega
    have HQ := Lib.hid hq
    rw [hq]
    clear hq
    have R1 := Lib.hid (((O1.out.reads.ext X2.out).ext ((Ext.refl _).drewN n3)).far g4 (fun k hk e => by have a := O2.out.lo k hk; have b := (O1.out.block k e).2; omega))
    have X4 := Lib.hid (((X1.out.trans X2.out).drewN n3).grown g4 (fun k hk => Nat.le_trans X1.out.size (O2.out.lo k hk)))
    have O4 := Lib.hid o4
    clear o4 g4
    go_wp2_with fail
    refine (heldStringS_calls xs.length 1 (by omega) (by have := LN.out; omega) v2 _ O4.out.reads).mono ?_
    rintro e w5 ⟨rfl, x5⟩
    have X5 := Lib.hid x5
    clear x5
    rw [HQ.out]
    go_wp2_with fail
    refine (C2 _).mono ?_
    rintro e w6 ⟨v6, rfl, o6, x6⟩
    have O6 := Lib.hid o6
    have X6 := Lib.hid x6
    clear o6 x6
    go_wp2_with fail
    refine (eqStringS_calls xs (by have := LN.out; omega) v6 v1 _ O6.out.reads ((R1.out.ext X5.out).ext X6.out)).mono ?_
    rintro e w7 ⟨rfl, n7, rfl⟩
    go_wp2_with fail
    refine (heldStringS_calls xs.length 1 (by omega) (by have := LN.out; omega) v2 _ (((O4.out.reads.ext X5.out).ext X6.out).ext ((Ext.refl _).drewN n7))).mono ?_
    rintro e w8 ⟨rfl, x8⟩
    have X8 := Lib.hid x8
    clear x8
    rw [HQ.out]
    go_wp2_with fail
    go_ret
    exact ⟨rfl, (((X4.out.trans X5.out).trans X6.out).drewN n7).trans X8.out⟩

end Go.Proofs.Ytfkjjmmoipcddaa.N
