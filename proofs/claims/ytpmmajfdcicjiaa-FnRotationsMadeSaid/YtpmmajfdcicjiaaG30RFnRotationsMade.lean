import Derived.Test.YtpmmajfdcicjiaaG1RFnRotationsMade
import Derived.Test.YtpmmajfdcicjiaaG2RFnRotationsMade
import Derived.Test.YtpmmajfdcicjiaaProg
import Derived.Test.YtpmmajfdcicjiaaG3RFnRotationsMade
import Derived.Test.YtpmmajfdcicjiaaG4RFnRotationsMade
import Derived.Test.YtpmmajfdcicjiaaG24RFnRotationsMade
import Derived.Test.YtpmmajfdcicjiaaG5RFnRotationsMade
import Derived.Test.YtpmmajfdcicjiaaG26RFnRotationsMade
import Derived.Deep.LoopGhost
import Derived.Test.YtpmmajfdcicjiaaG6RFnRotationsMade
import Derived.Test.YtpmmajfdcicjiaaG9RFnRotationsMade
import Derived.Test.YtpmmajfdcicjiaaG7RFnRotationsMade
import Derived.Test.YtpmmajfdcicjiaaG22RFnRotationsMade
import Derived.Test.YtpmmajfdcicjiaaG10RFnRotationsMade
import Derived.Test.YtpmmajfdcicjiaaG14RFnRotationsMade
import Derived.Test.YtpmmajfdcicjiaaG15RFnRotationsMade
import Derived.Test.YtpmmajfdcicjiaaG16RFnRotationsMade
import Derived.Test.YtpmmajfdcicjiaaG23RFnRotationsMade
import Derived.Test.YtpmmajfdcicjiaaG29RFnRotationsMade
import Derived.Test.YtpmmajfdcicjiaaG11RFnRotationsMade
import Derived.OwnWalk
import Derived.Deep.RegionHeld3
import Derived.Deep.QuietTactic
import Derived.BigQuiet
/- Brackets with letters: the program's function and the law. -/
namespace Go.Proofs.Ytpmmajfdcicjiaa.N
open Go.RowKit
set_option linter.unusedVariables false
set_option linter.unusedSimpArgs false

theorem fillP_one (c : UInt8) (l : List UInt8) (d : UInt8) (L : List UInt8) : fillP (46 :: l) (ones (d :: L)) = d :: fillP l (ones L) := by
  show fillP (46 :: l) (S [d] :: ones L) = _
  rw [fillP_dot, S_toList]; rfl
set_option maxHeartbeats 3200000 in
set_option maxRecDepth 100000 in
theorem implBr_yes (T : Tr) (hT : T.carets ≤ 8) (m : List UInt8) (hm : m.length = T.carets + 1) (w : World) :
    Calls Try.prog 23 #[.string (tx T), .string (S m)] w (BrPost w T m) := by
  have C1 := Lib.hid (fun W => parse_yes T W hT)
  have C2 := Lib.hid (fun p W => leaves_calls T p W (by omega))
  have q : ((S m).size : Int) = (T.carets : Int) + 1 := by show ((m.length : Nat) : Int) = _; omega
  have q1 : (((T.carets : Int) + 1) != ((T.carets : Int) + 1)) = false := by simp
  have hT' : (T.carets : Int) ≤ 8 ∧ (0 : Int) ≤ T.carets := by omega
  have TL := Lib.hid T.txt_length
  have DL : Hid (m.length = dots T.txt) := by show _ = _; rw [dots_txt]; exact hm
  rw [show tx T = S T.txt from rfl]
  rw [show tx T = S T.txt from rfl] at C1
  unfold BrPost
  have ql : (T.txt.length : Int) ≤ 25 := by have := TL.out; omega
  generalize T.txt = l at *
  go_enter Try.func23, Try.ntmps23
  go_wp2_with fail
  refine (C1.out _).mono ?_
  rintro e w1 ⟨p, rfl, hp, hx⟩
  have H := Lib.hid (And.intro hp hx)
  clear hp hx
  go_wp2_with fail
  refine (C2.out _ _ H.out.1).mono ?_
  rintro e w2 ⟨rfl, nd, rfl⟩
  have HX := Lib.hid (H.out.2.drewN nd)
  generalize w1.drewN nd = w2 at *
  clear H
  go_wp2_with fail
  go_loop [27] (fun i => ∃ j : Nat, j ≤ m.length ∧ i = .int .i64 j ∧ Hid (okL (m.take j))) (fun i => m.length - (intOf i).toNat)
  case atStart => exact ⟨0, Nat.zero_le _, rfl, (show okL [] from fun c hc => nomatch hc)⟩
  case round =>
    obtain ⟨j, hj, rfl, HK⟩ := hrel
    by_cases hlt : j < m.length
    · obtain ⟨c, hc⟩ : ∃ c, m[j]? = some c := ⟨_, List.getElem?_eq_getElem hlt⟩
      have h1 : (j : Int) < (S m).size := by show (j : Int) < (m.length : Nat); omega
      have h0 : (0 : Int) ≤ j := by omega
      obtain ⟨x1, x2⟩ := s_at (S m) j c (by rw [S_toList]; exact hc)
      by_cases l1 : c.toNat < 97
      · have NO := Lib.hid (not_ok hc (by omega))
        have d1 : (c.toNat : Int) < 97 := by omega
        clear hc l1
        go_wp2_with fail
        go_ret2
        exact ⟨fun h => absurd h NO.out, fun _ => rfl, HX.out⟩
      · by_cases l2 : 122 < c.toNat
        · have NO := Lib.hid (not_ok hc (by omega))
          have d1 : ¬ (c.toNat : Int) < 97 := by omega
          have d2 : (122 : Int) < c.toNat := by omega
          clear hc l1 l2
          go_wp2_with fail
          go_ret2
          exact ⟨fun h => absurd h NO.out, fun _ => rfl, HX.out⟩
        · have OK2 := Lib.hid (ok_step HK.out hc (by omega) (by omega))
          have d1 : ¬ (c.toNat : Int) < 97 := by omega
          have d2 : ¬ (122 : Int) < c.toNat := by omega
          clear hc l1 l2
          go_wp2_with fail
          exact ⟨⟨j + 1, by omega, by go_num, OK2.out⟩, by simp [intOf]; omega⟩
    · have h1 : ((S m).size : Int) ≤ j := by show ((m.length : Nat) : Int) ≤ j; omega
      have E : Hid (m.take j = m) := List.take_of_length_le (by omega)
      have HK2 := Lib.hid (E.out ▸ HK.out)
      clear HK E
      go_wp2_with fail
      go_loop [43, 9, 1] (fun i o t => ∃ (j : Nat) (acc L : List UInt8), j ≤ l.length ∧ i = .int .i64 j ∧ o = .string (S acc) ∧ t = .string (S L) ∧ Hid (L.length = dots (l.drop j)) ∧ Hid (acc.length ≤ j) ∧ Hid (fillP l (ones m) = acc ++ fillP (l.drop j) (ones L))) (fun i _ _ => l.length - (intOf i).toNat)
      case atStart => exact ⟨0, [], m, Nat.zero_le _, rfl, rfl, rfl, DL.out, Nat.zero_le _, rfl⟩
      case round =>
        obtain ⟨j, acc, L, hj, rfl, rfl, rfl, HL, HA, HF⟩ := hrel
        by_cases hlt : j < l.length
        · obtain ⟨c, hc⟩ : ∃ c, l[j]? = some c := ⟨_, List.getElem?_eq_getElem hlt⟩
          have hD : l.drop j = c :: l.drop (j + 1) := by
            obtain ⟨g1, g2⟩ := List.getElem?_eq_some_iff.1 hc
            rw [List.drop_eq_getElem_cons g1, g2]
          have h1 : (j : Int) < (S l).size := by show (j : Int) < (l.length : Nat); omega
          have h0 : (0 : Int) ≤ j := by omega
          obtain ⟨x1, x2⟩ := s_at (S l) j c (by rw [S_toList]; exact hc)
          by_cases c1 : c = 46
          · subst c1
            have HL2 := HL.out
            rw [hD, show dots (46 :: l.drop (j + 1)) = dots (l.drop (j + 1)) + 1 from by simp [dots]] at HL2
            cases L with
            | nil => simp at HL2
            | cons d L =>
            have HL3 : Hid (L.length = dots (l.drop (j + 1))) := by show _ = _; simpa using HL2
            have FF : Hid (fillP l (ones m) = (acc ++ [d]) ++ fillP (l.drop (j + 1)) (ones L)) := by show _ = _; rw [HF.out, hD, fillP_one 46, List.append_assoc]; rfl
            have t1 : (((46 : UInt8).toNat : Int) == 46) = true := rfl
            obtain ⟨_, s1, s2, _, s4⟩ := S_facts d L
            have OB : (S (d :: L)).extract 0 1 = S [d] := by rw [S_extract]; simp
            have s4 := s4.out
            have g4 : (9223372036854775807 < (S acc).size + 1) = False := by rw [S_size]; have := HA.out; simp; omega
            have g5 : (9223372036854775807 < (S acc).size + (S [d]).size) = False := by rw [S_size, S_size]; have := HA.out; simp; omega
            have EA : Hid (S acc ++ S [d] = S (acc ++ [d])) := S_append _ _
            have LA : Hid ((acc ++ [d]).length ≤ j + 1) := by
              have := HA.out
              show _ ≤ _
              rw [List.length_append]; simp; omega
            clear hc hD HL HL2 HF
            go_wp2_with fail
            rw [EA.out]
            exact ⟨⟨j + 1, acc ++ [d], L, by omega, by go_num, rfl, rfl, HL3.out, LA.out, FF.out⟩, by simp [intOf]; omega⟩
          · have t1 : ((c.toNat : Int) == 46) = false := byte_ne c1
            have HL3 : Hid (L.length = dots (l.drop (j + 1))) := by show _ = _; rw [HL.out, hD]; simp [dots, c1]
            have FF : Hid (fillP l (ones m) = (acc ++ [c]) ++ fillP (l.drop (j + 1)) (ones L)) := by show _ = _; rw [HF.out, hD, fillP_other _ _ _ c1, List.append_assoc]; rfl
            have OB := one_byte l j c hc
            have g4 : (9223372036854775807 < (S acc).size + 1) = False := by rw [S_size]; have := HA.out; simp; omega
            have g5 : (9223372036854775807 < (S acc).size + (S [c]).size) = False := by rw [S_size, S_size]; have := HA.out; simp; omega
            have EA : Hid (S acc ++ S [c] = S (acc ++ [c])) := S_append _ _
            have LA : Hid ((acc ++ [c]).length ≤ j + 1) := by
              have := HA.out
              show _ ≤ _
              rw [List.length_append]; simp; omega
            clear hc hD HL HF c1
            go_wp2_with fail
            rw [EA.out]
            exact ⟨⟨j + 1, acc ++ [c], L, by omega, by go_num, rfl, rfl, HL3.out, LA.out, FF.out⟩, by simp [intOf]; omega⟩
        · have h1 : ((S l).size : Int) ≤ j := by show ((l.length : Nat) : Int) ≤ j; omega
          have E : Hid (fillP l (ones m) = acc) := by show _ = _; rw [HF.out, List.drop_eq_nil_of_le (by omega)]; simp [fillP]
          go_wp2_with fail
          go_ret2
          exact ⟨fun _ => by rw [E.out]; rfl, fun h => absurd HK2.out h, HX.out⟩
set_option maxHeartbeats 1600000 in
theorem implBr_no (s m : ByteArray) (h : ¬ ∃ T, s = tx T ∧ T.carets ≤ 8 ∧ m.size = T.carets + 1) (w : World) :
    Calls Try.prog 23 #[.string s, .string m] w fun e w' => e = .returned (.tuple #[.string ⟨#[]⟩, .bool false]) ∧ Ext w w' := by
  by_cases hT : ∃ T, s = tx T ∧ T.carets ≤ 8
  · obtain ⟨T, rfl, hT⟩ := hT
    have C1 := Lib.hid (fun W => parse_yes T W hT)
    have C2 := Lib.hid (fun p W => leaves_calls T p W (by omega))
    have hne : m.size ≠ T.carets + 1 := fun e => h ⟨T, rfl, hT, e⟩
    have q1 : ((m.size : Int) != ((T.carets : Int) + 1)) = true := by rw [bne_iff_ne]; omega
    have hT' : (T.carets : Int) ≤ 8 ∧ (0 : Int) ≤ T.carets := by omega
    clear h hne
    go_enter Try.func23, Try.ntmps23
    go_wp2_with fail
    refine (C1.out _).mono ?_
    rintro e w1 ⟨p, rfl, hp, hx⟩
    have H := Lib.hid (And.intro hp hx)
    clear hp hx
    go_wp2_with fail
    refine (C2.out _ _ H.out.1).mono ?_
    rintro e w2 ⟨rfl, nd, rfl⟩
    go_wp2_with fail
    go_ret2
    exact ⟨rfl, H.out.2.drewN _⟩
  · have C1 := Lib.hid (fun W => parse_no s W hT)
    clear h hT
    go_enter Try.func23, Try.ntmps23
    go_wp2_with fail
    refine (C1.out _).mono ?_
    rintro e w1 ⟨rfl, hx⟩
    have H := Lib.hid hx
    clear hx
    go_wp2_with fail
    go_ret2
    exact ⟨rfl, H.out⟩

theorem both_BracketText (s m : ByteArray) : ∃ x b, (∀ w, Calls Try.prog 24 #[.string s, .string m] w fun e w' => e = .returned (.tuple #[.string x, .bool b]) ∧ Ext w w') ∧ ∀ w, Calls Try.prog 23 #[.string s, .string m] w fun e w' => e = .returned (.tuple #[.string x, .bool b]) ∧ Ext w w' := by
  by_cases h : ∃ T, s = tx T ∧ T.carets ≤ 8 ∧ m.size = T.carets + 1
  · obtain ⟨T, rfl, h1, h2⟩ := h
    have hm : m.toList.length = T.carets + 1 := by rw [S_of m, S_size] at h2; exact h2
    rw [S_of m]
    by_cases ok : okL m.toList
    · exact ⟨_, _, fun w => (specBr_yes T h1 _ hm w).mono fun e w' h => ⟨h.1 ok, h.2.2⟩, fun w => (implBr_yes T h1 _ hm w).mono fun e w' h => ⟨h.1 ok, h.2.2⟩⟩
    · exact ⟨_, _, fun w => (specBr_yes T h1 _ hm w).mono fun e w' h => ⟨h.2.1 ok, h.2.2⟩, fun w => (implBr_yes T h1 _ hm w).mono fun e w' h => ⟨h.2.1 ok, h.2.2⟩⟩
  · exact ⟨_, _, specBr_no s m h, implBr_no s m h⟩
end Go.Proofs.Ytpmmajfdcicjiaa.N
/- FnTablesKeepValues: what its calls give, as facts on the tables. -/
namespace Go.Proofs.Ytpmmajfdcicjiaa.N
open Go.RowKit
set_option linter.unusedVariables false
set_option linter.unusedSimpArgs false

set_option maxHeartbeats 1600000 in
theorem fSame_calls (xs : List Int) (hn : xs.length < 1000000000) (va vb : Value) (w : World) (ha : Reads w va (ints xs)) (hb : Reads w vb (ints xs)) :
    Calls Try.prog 17 #[va, vb] w fun e w' => e = .returned (.bool true) ∧ ∃ n, w' = w.drewN n := by
  obtain ⟨A, c, rfl, _, ha⟩ := ha
  obtain ⟨B, d, rfl, _, hb⟩ := hb
  rw [ints_length] at *
  have HA := Lib.hid ha
  have HB := Lib.hid hb
  clear ha hb
  go_enter Try.func17, Try.ntmps17
  go_wp2_with fail
  go_loopw [13] (fun i wr => ∃ k : Nat, k ≤ xs.length ∧ i = .int .i64 k ∧ ∃ n, wr = w.drewN n) (fun i _ => xs.length - (intOf i).toNat)
  case atStart => exact ⟨0, Nat.zero_le _, rfl, 0, rfl⟩
  case round =>
    obtain ⟨k, hk, rfl, n, rfl⟩ := hrel
    by_cases hlt : k < xs.length
    · obtain ⟨ad, rfl, ca⟩ := HA.out (by omega)
      obtain ⟨bd, rfl, cb⟩ := HB.out (by omega)
      have c1 := ca k _ (ints_get xs k hlt)
      have c2 := cb k _ (ints_get xs k hlt)
      have h0 : (0 : Int) ≤ k := by omega
      have h1 : (k : Int) < xs.length := by omega
      clear ca cb HA HB
      generalize xs[k] = x at *
      go_wp2_with fail
      go_quiet (fail)
      go_wp2_with fail
      exact ⟨⟨k + 1, by omega, by go_num, _, rfl⟩, by simp [intOf]; omega⟩
    · have h1 : (xs.length : Int) ≤ k := by omega
      go_wp2_with fail
      go_ret
      exact ⟨rfl, n, rfl⟩

theorem CaretsOf_yes (T : Tr) (hT : T.carets ≤ 8) (w : World) : Calls Try.prog 25 #[.string (tx T)] w fun e w' => e = .returned (.tuple #[.int .i64 T.carets, .bool true]) ∧ Ext w w' := by
  have C1 := Lib.hid (parse_yes T w hT)
  have C2 := Lib.hid (fun p W h => carets_calls T p W (by omega) h)
  generalize tx T = s at *
  clear hT
  go_enter Try.func25, Try.ntmps25
  go_wp2_with fail
  refine (C1.out).mono ?_
  rintro e w1 ⟨p, rfl, hr, hx⟩
  have X1 := Lib.hid hx
  have C3 := Lib.hid (C2.out p w1 hr)
  clear hx hr
  go_wp2_with fail
  refine (C3.out).mono ?_
  rintro e w2 ⟨rfl, n, rfl⟩
  have X2 := Lib.hid (X1.out.drewN n)
  go_wp2_with fail
  go_ret2
  exact ⟨rfl, X2.out⟩

theorem isCarets_yes (n : Nat) (hn : n ≤ 8) (w : World) : Calls Try.prog 102 #[.int .i64 n] w fun e w' => e = .returned (.bool true) ∧ w = w' := by
  have n0 : (0 : Int) ≤ n := by omega
  have n8 : (n : Int) ≤ 8 := by omega
  go_enter Try.func102, Try.ntmps102
  go_wp2_with fail
  go_ret
  exact ⟨rfl, rfl⟩

theorem RightComb_yes (n : Nat) (hn : n ≤ 8) (w : World) : Calls Try.prog 26 #[.int .i64 n] w fun e w' => e = .returned (.tuple #[.string (tx (comb n)), .bool true]) ∧ Ext w w' := by
  have C1 := Lib.hid (rightComb_calls n (by omega) w)
  have C2 := Lib.hid (fun p W h => text_calls (comb n) p W (by rw [comb_carets]; omega) h)
  have n0 : (0 : Int) ≤ n := by omega
  have n8 : (n : Int) ≤ 8 := by omega
  generalize tx (comb n) = s at *
  have C0 := Lib.hid (isCarets_yes n hn w)
  go_enter Try.func26, Try.ntmps26
  go_wp2_with fail
  refine (C0.out).mono ?_
  rintro e w0 ⟨rfl, rfl⟩
  go_wp2_with fail
  refine (C1.out).mono ?_
  rintro e w1 ⟨p, rfl, hr, hx⟩
  have X1 := Lib.hid hx
  have C3 := Lib.hid (C2.out p w1 hr)
  clear hx hr
  go_wp2_with fail
  refine (C3.out).mono ?_
  rintro e w2 ⟨rfl, n, rfl⟩
  have X2 := Lib.hid (X1.out.drewN n)
  go_wp2_with fail
  go_ret2
  exact ⟨rfl, X2.out⟩

theorem GeneratorPair_yes (i : Nat) (hi : i ≤ 6) (w : World) : Calls Try.prog 18 #[.int .i64 i] w fun e w' => e = .returned (.tuple #[.agg #[.string (tx (gen i).1), .string (tx (gen i).2)], .bool true]) ∧ Ext w w' := by
  have x0 := (Ext.refl w).alloc (.cells #[.string ⟨#[]⟩, .string ⟨#[]⟩] 25)
  have t0 := Two.new w (.string ⟨#[]⟩) (.string ⟨#[]⟩) 25 rfl
  have C1 := Lib.hid (generator_calls i (by omega) (w.alloc (.cells #[.string ⟨#[]⟩, .string ⟨#[]⟩] 25)))
  have C2 := Lib.hid (fun pa pb W h h2 => plain_calls (gen i).1 (gen i).2 (by rw [(gen_carets i).1]; omega) (by rw [(gen_carets i).2]; omega) pa pb W h h2)
  have X0 := Lib.hid x0
  have T0 := Lib.hid t0
  have i0 : (0 : Int) ≤ i := by omega
  have i6 : (i : Int) ≤ 6 := by omega
  generalize tx (gen i).1 = a at *
  generalize tx (gen i).2 = b at *
  clear x0 t0
  go_enter Try.func18, Try.ntmps18
  go_wp2_with fail
  generalize w.alloc (.cells #[.string ⟨#[]⟩, .string ⟨#[]⟩] 25) = W at *
  refine (C1.out).mono ?_
  rintro e w1 ⟨pa, pb, rfl, ra, rb, hx⟩
  have X1 := Lib.hid (X0.out.trans hx)
  have T1 := Lib.hid (T0.out.ext hx)
  have C3 := Lib.hid (C2.out pa pb w1 ra rb)
  clear hx ra rb
  go_wp2_with fail
  refine (C3.out).mono ?_
  rintro e w2 ⟨rfl, hx⟩
  have X2 := Lib.hid (X1.out.trans hx)
  have T2 := T1.out.ext hx
  obtain ⟨u, v, k0, k1, f0, f1⟩ := T2.facts
  obtain ⟨hc0, hc1⟩ := cells_of (set2_heap T2 (.string a) (.string b))
  have X3 := Lib.hid (X2.out.set2 (Nat.le_refl _) (.string a) (.string b))
  clear T2 hx
  go_wp2_with fail
  change bodyPost _ _ _ _ _ (N.set2 w2 w.heap.size (.string a) (.string b))
  exact bodyPost_ret (v := .tuple #[.agg #[.string a, .string b], .bool true]) (by simp [results, Try.results18, go_sem, hc0, hc1]) rfl ⟨rfl, X3.out⟩

/-- A row folded from the left. -/
def fld (g : Nat → Nat → Nat) : List Nat → Nat
  | [] => 0
  | a :: l => l.foldl g a
def assocN (n : Nat) (g : Nat → Nat → Nat) : Prop := ∀ i j k, i < n → j < n → k < n → okT g i j k
theorem foldl_lt {n : Nat} {g : Nat → Nat → Nat} (hg : ∀ i j, i < n → j < n → g i j < n) : ∀ (l : List Nat) (a : Nat), a < n → (∀ x ∈ l, x < n) → l.foldl g a < n
  | [], a, ha, _ => ha
  | x :: l, a, ha, hl => foldl_lt hg l _ (hg a x ha (hl x List.mem_cons_self)) fun y hy => hl y (List.mem_cons_of_mem _ hy)
theorem foldl_out {n : Nat} {g : Nat → Nat → Nat} (hg : ∀ i j, i < n → j < n → g i j < n) (ha : assocN n g) : ∀ (l : List Nat) (p y : Nat), p < n → y < n → (∀ x ∈ l, x < n) → l.foldl g (g p y) = g p (l.foldl g y)
  | [], _, _, _, _, _ => rfl
  | x :: l, p, y, hp, hy, hl => by
    have hx := hl x List.mem_cons_self
    show l.foldl g (g (g p y) x) = g p (l.foldl g (g y x))
    rw [← ha p y x hp hy hx]
    exact foldl_out hg ha l p (g y x) hp (hg y x hy hx) fun z hz => hl z (List.mem_cons_of_mem _ hz)
theorem fld_append {n : Nat} {g : Nat → Nat → Nat} (hg : ∀ i j, i < n → j < n → g i j < n) (ha : assocN n g) {a b : List Nat} (h1 : 0 < a.length) (h2 : 0 < b.length) (hl : ∀ x ∈ a ++ b, x < n) : fld g (a ++ b) = g (fld g a) (fld g b) := by
  cases a with
  | nil => simp at h1
  | cons x a =>
    cases b with
    | nil => simp at h2
    | cons y b =>
      show (a ++ y :: b).foldl g x = g (a.foldl g x) (b.foldl g y)
      rw [List.foldl_append, List.foldl_cons]
      exact foldl_out hg ha b _ y (foldl_lt hg a x (hl x (by simp)) fun z hz => hl z (by simp [hz])) (hl y (by simp)) fun z hz => hl z (by simp [hz])
theorem val_fld {n : Nat} {g : Nat → Nat → Nat} (hg : ∀ i j, i < n → j < n → g i j < n) (ha : assocN n g) : ∀ (T : Tr) (ys : List Nat), T.carets < ys.length → (∀ y ∈ ys, y < n) → val g T ys = fld g (ys.take (T.carets + 1))
  | .leaf, ys, h, _ => by
    cases ys with
    | nil => simp [Tr.carets] at h
    | cons y ys => rfl
  | .node l r, ys, h, hy => by
    simp only [Tr.carets] at h
    simp only [val]
    rw [val_fld hg ha l ys (by omega) hy, val_fld hg ha r _ (by rw [List.length_drop]; omega) fun y hm => hy y (List.mem_of_mem_drop hm)]
    have e : ys.take ((Tr.node l r).carets + 1) = ys.take (l.carets + 1) ++ (ys.drop (l.carets + 1)).take (r.carets + 1) := by
      rw [← List.take_add]; congr 1; simp only [Tr.carets]; omega
    rw [e]
    rw [fld_append hg ha (by rw [List.length_take]; omega) (by rw [List.length_take, List.length_drop]; omega)]
    intro x hx
    rcases List.mem_append.1 hx with hx | hx
    · exact hy x (List.mem_of_mem_take hx)
    · exact hy x (List.mem_of_mem_drop (List.mem_of_mem_take hx))
def LLt : Tr := .node (.node .leaf .leaf) .leaf
def RRt : Tr := .node .leaf (.node .leaf .leaf)
theorem gen0 : gen 0 = (LLt, RRt) := rfl
theorem keeps_gen0 {n : Nat} {g : Nat → Nat → Nat} : Keeps n g LLt RRt [] ↔ assocN n g := by
  constructor
  · intro h i j k hi hj hk
    have := h [i, j, k] rfl (by simp; exact ⟨hi, hj, hk⟩)
    exact this.symm
  · intro h zs hl hz
    obtain ⟨i, j, k, rfl⟩ : ∃ i j k, zs = [i, j, k] := by
      simp [LLt, Tr.carets] at hl
      match zs, hl with
      | [a, b, c], _ => exact ⟨a, b, c, rfl⟩
    exact (h i j k (hz i (by simp)) (hz j (by simp)) (hz k (by simp))).symm
theorem keeps_assoc {n : Nat} {g : Nat → Nat → Nat} (hg : ∀ i j, i < n → j < n → g i j < n) (ha : assocN n g) {A B : Tr} (hc : A.carets = B.carets) : Keeps n g A B [] := by
  intro zs hl hz
  simp only [List.length_nil, Nat.zero_add, List.nil_append] at *
  rw [val_fld hg ha A zs (by omega) hz, val_fld hg ha B zs (by omega) hz, hc]
end Go.Proofs.Ytpmmajfdcicjiaa.N
