import Derived.Test.YtpmmajfdcicjiaaBa
import Derived.Test.YtpmmajfdcicjiaaPu
import Derived.Test.YtpmmajfdcicjiaaSl
import Derived.Test.YtpmmajfdcicjiaaProg
import Derived.Test.YtpmmajfdcicjiaaTs
import Derived.Test.YtpmmajfdcicjiaaPp
import Derived.Test.YtpmmajfdcicjiaaPx
import Derived.Test.YtpmmajfdcicjiaaPb
import Derived.Test.YtpmmajfdcicjiaaWl
import Derived.Test.YtpmmajfdcicjiaaTn
import Derived.Test.YtpmmajfdcicjiaaSb
import Derived.Deep.LoopGhost
/- Brackets with letters: the program's function and the law. -/
namespace Go.Proofs.Ytpmmajfdcicjiaa.N
open Go.RowKit
set_option linter.unusedVariables false
set_option linter.unusedSimpArgs false

theorem fillP_one (c : UInt8) (l : List UInt8) (d : UInt8) (L : List UInt8) : fillP (46 :: l) (ones (d :: L)) = d :: fillP l (ones L) := by
  show fillP (46 :: l) (S [d] :: ones L) = _
  rw [fillP_dot, S_toList]; rfl
set_option maxHeartbeats 3200000 in
set_option maxRecDepth 100000 in
theorem implBr_yes (T : Tr) (hT : T.carets ≤ 8) (m : List UInt8) (hm : m.length = T.carets + 1) (w : World) :
    Calls Try.prog 23 #[.string (tx T), .string (S m)] w (BrPost w T m) := by
  have C1 := Lib.hid (fun W => parse_yes T W hT)
  have C2 := Lib.hid (fun p W => leaves_calls T p W (by omega))
  have q : ((S m).size : Int) = (T.carets : Int) + 1 := by show ((m.length : Nat) : Int) = _; omega
  have q1 : (((T.carets : Int) + 1) != ((T.carets : Int) + 1)) = false := by simp
  have hT' : (T.carets : Int) ≤ 8 ∧ (0 : Int) ≤ T.carets := by omega
  have TL := Lib.hid T.txt_length
  have DL : Hid (m.length = dots T.txt) := by show _ = _; rw [dots_txt]; exact hm
  rw [show tx T = S T.txt from rfl]
  rw [show tx T = S T.txt from rfl] at C1
  unfold BrPost
  have ql : (T.txt.length : Int) ≤ 25 := by have := TL.out; omega
  generalize T.txt = l at *
  go_enter Try.func23, Try.ntmps23
  go_wp2_with fail
  refine (C1.out _).mono ?_
  rintro e w1 ⟨p, rfl, hp, hx⟩
  have H := Lib.hid (And.intro hp hx)
  clear hp hx
  go_wp2_with fail
  refine (C2.out _ _ H.out.1).mono ?_
  rintro e w2 ⟨rfl, nd, rfl⟩
  have HX := Lib.hid (H.out.2.drewN nd)
  generalize w1.drewN nd = w2 at *
  clear H
  go_wp2_with fail
  go_loop [27] (fun i => ∃ j : Nat, j ≤ m.length ∧ i = .int .i64 j ∧ Hid (okL (m.take j))) (fun i => m.length - (intOf i).toNat)
  case atStart => exact ⟨0, Nat.zero_le _, rfl, (show okL [] from fun c hc => nomatch hc)⟩
  case round =>
    obtain ⟨j, hj, rfl, HK⟩ := hrel
    by_cases hlt : j < m.length
    · obtain ⟨c, hc⟩ : ∃ c, m[j]? = some c := ⟨_, List.getElem?_eq_getElem hlt⟩
      have h1 : (j : Int) < (S m).size := by show (j : Int) < (m.length : Nat); omega
      have h0 : (0 : Int) ≤ j := by omega
      obtain ⟨x1, x2⟩ := s_at (S m) j c (by rw [S_toList]; exact hc)
      by_cases l1 : c.toNat < 97
      · have NO := Lib.hid (not_ok hc (by omega))
        have d1 : (c.toNat : Int) < 97 := by omega
        clear hc l1
        go_wp2_with fail
        go_ret2
        exact ⟨fun h => absurd h NO.out, fun _ => rfl, HX.out⟩
      · by_cases l2 : 122 < c.toNat
        · have NO := Lib.hid (not_ok hc (by omega))
          have d1 : ¬ (c.toNat : Int) < 97 := by omega
          have d2 : (122 : Int) < c.toNat := by omega
          clear hc l1 l2
          go_wp2_with fail
          go_ret2
          exact ⟨fun h => absurd h NO.out, fun _ => rfl, HX.out⟩
        · have OK2 := Lib.hid (ok_step HK.out hc (by omega) (by omega))
          have d1 : ¬ (c.toNat : Int) < 97 := by omega
          have d2 : ¬ (122 : Int) < c.toNat := by omega
          clear hc l1 l2
          go_wp2_with fail
          exact ⟨⟨j + 1, by omega, by go_num, OK2.out⟩, by simp [intOf]; omega⟩
    · have h1 : ((S m).size : Int) ≤ j := by show ((m.length : Nat) : Int) ≤ j; omega
      have E : Hid (m.take j = m) := List.take_of_length_le (by omega)
      have HK2 := Lib.hid (E.out ▸ HK.out)
      clear HK E
      go_wp2_with fail
      go_loop [43, 9, 1] (fun i o t => ∃ (j : Nat) (acc L : List UInt8), j ≤ l.length ∧ i = .int .i64 j ∧ o = .string (S acc) ∧ t = .string (S L) ∧ Hid (L.length = dots (l.drop j)) ∧ Hid (acc.length ≤ j) ∧ Hid (fillP l (ones m) = acc ++ fillP (l.drop j) (ones L))) (fun i _ _ => l.length - (intOf i).toNat)
      case atStart => exact ⟨0, [], m, Nat.zero_le _, rfl, rfl, rfl, DL.out, Nat.zero_le _, rfl⟩
      case round =>
        obtain ⟨j, acc, L, hj, rfl, rfl, rfl, HL, HA, HF⟩ := hrel
        by_cases hlt : j < l.length
        · obtain ⟨c, hc⟩ : ∃ c, l[j]? = some c := ⟨_, List.getElem?_eq_getElem hlt⟩
          have hD : l.drop j = c :: l.drop (j + 1) := by
            obtain ⟨g1, g2⟩ := List.getElem?_eq_some_iff.1 hc
            rw [List.drop_eq_getElem_cons g1, g2]
          have h1 : (j : Int) < (S l).size := by show (j : Int) < (l.length : Nat); omega
          have h0 : (0 : Int) ≤ j := by omega
          obtain ⟨x1, x2⟩ := s_at (S l) j c (by rw [S_toList]; exact hc)
          by_cases c1 : c = 46
          · subst c1
            have HL2 := HL.out
            rw [hD, show dots (46 :: l.drop (j + 1)) = dots (l.drop (j + 1)) + 1 from by simp [dots]] at HL2
            cases L with
            | nil => simp at HL2
            | cons d L =>
            have HL3 : Hid (L.length = dots (l.drop (j + 1))) := by show _ = _; simpa using HL2
            have FF : Hid (fillP l (ones m) = (acc ++ [d]) ++ fillP (l.drop (j + 1)) (ones L)) := by show _ = _; rw [HF.out, hD, fillP_one 46, List.append_assoc]; rfl
            have t1 : (((46 : UInt8).toNat : Int) == 46) = true := rfl
            obtain ⟨_, s1, s2, _, s4⟩ := S_facts d L
            have OB : (S (d :: L)).extract 0 1 = S [d] := by rw [S_extract]; simp
            have s4 := s4.out
            have g4 : (9223372036854775807 < (S acc).size + 1) = False := by rw [S_size]; have := HA.out; simp; omega
            have g5 : (9223372036854775807 < (S acc).size + (S [d]).size) = False := by rw [S_size, S_size]; have := HA.out; simp; omega
            have EA : Hid (S acc ++ S [d] = S (acc ++ [d])) := S_append _ _
            have LA : Hid ((acc ++ [d]).length ≤ j + 1) := by
              have := HA.out
              show _ ≤ _
              rw [List.length_append]; simp; omega
            clear hc hD HL HL2 HF
            go_wp2_with fail
            rw [EA.out]
            exact ⟨⟨j + 1, acc ++ [d], L, by omega, by go_num, rfl, rfl, HL3.out, LA.out, FF.out⟩, by simp [intOf]; omega⟩
          · have t1 : ((c.toNat : Int) == 46) = false := byte_ne c1
            have HL3 : Hid (L.length = dots (l.drop (j + 1))) := by show _ = _; rw [HL.out, hD]; simp [dots, c1]
            have FF : Hid (fillP l (ones m) = (acc ++ [c]) ++ fillP (l.drop (j + 1)) (ones L)) := by show _ = _; rw [HF.out, hD, fillP_other _ _ _ c1, List.append_assoc]; rfl
            have OB := one_byte l j c hc
            have g4 : (9223372036854775807 < (S acc).size + 1) = False := by rw [S_size]; have := HA.out; simp; omega
            have g5 : (9223372036854775807 < (S acc).size + (S [c]).size) = False := by rw [S_size, S_size]; have := HA.out; simp; omega
            have EA : Hid (S acc ++ S [c] = S (acc ++ [c])) := S_append _ _
            have LA : Hid ((acc ++ [c]).length ≤ j + 1) := by
              have := HA.out
              show _ ≤ _
              rw [List.length_append]; simp; omega
            clear hc hD HL HF c1
            go_wp2_with fail
            rw [EA.out]
            exact ⟨⟨j + 1, acc ++ [c], L, by omega, by go_num, rfl, rfl, HL3.out, LA.out, FF.out⟩, by simp [intOf]; omega⟩
        · have h1 : ((S l).size : Int) ≤ j := by show ((l.length : Nat) : Int) ≤ j; omega
          have E : Hid (fillP l (ones m) = acc) := by show _ = _; rw [HF.out, List.drop_eq_nil_of_le (by omega)]; simp [fillP]
          go_wp2_with fail
          go_ret2
          exact ⟨fun _ => by rw [E.out]; rfl, fun h => absurd HK2.out h, HX.out⟩
set_option maxHeartbeats 1600000 in
theorem implBr_no (s m : ByteArray) (h : ¬ ∃ T, s = tx T ∧ T.carets ≤ 8 ∧ m.size = T.carets + 1) (w : World) :
    Calls Try.prog 23 #[.string s, .string m] w fun e w' => e = .returned (.tuple #[.string ⟨#[]⟩, .bool false]) ∧ Ext w w' := by
  by_cases hT : ∃ T, s = tx T ∧ T.carets ≤ 8
  · obtain ⟨T, rfl, hT⟩ := hT
    have C1 := Lib.hid (fun W => parse_yes T W hT)
    have C2 := Lib.hid (fun p W => leaves_calls T p W (by omega))
    have hne : m.size ≠ T.carets + 1 := fun e => h ⟨T, rfl, hT, e⟩
    have q1 : ((m.size : Int) != ((T.carets : Int) + 1)) = true := by rw [bne_iff_ne]; omega
    have hT' : (T.carets : Int) ≤ 8 ∧ (0 : Int) ≤ T.carets := by omega
    clear h hne
    go_enter Try.func23, Try.ntmps23
    go_wp2_with fail
    refine (C1.out _).mono ?_
    rintro e w1 ⟨p, rfl, hp, hx⟩
    have H := Lib.hid (And.intro hp hx)
    clear hp hx
    go_wp2_with fail
    refine (C2.out _ _ H.out.1).mono ?_
    rintro e w2 ⟨rfl, nd, rfl⟩
    go_wp2_with fail
    go_ret2
    exact ⟨rfl, H.out.2.drewN _⟩
  · have C1 := Lib.hid (fun W => parse_no s W hT)
    clear h hT
    go_enter Try.func23, Try.ntmps23
    go_wp2_with fail
    refine (C1.out _).mono ?_
    rintro e w1 ⟨rfl, hx⟩
    have H := Lib.hid hx
    clear hx
    go_wp2_with fail
    go_ret2
    exact ⟨rfl, H.out⟩

theorem both_BracketText (s m : ByteArray) : ∃ x b, (∀ w, Calls Try.prog 24 #[.string s, .string m] w fun e w' => e = .returned (.tuple #[.string x, .bool b]) ∧ Ext w w') ∧ ∀ w, Calls Try.prog 23 #[.string s, .string m] w fun e w' => e = .returned (.tuple #[.string x, .bool b]) ∧ Ext w w' := by
  by_cases h : ∃ T, s = tx T ∧ T.carets ≤ 8 ∧ m.size = T.carets + 1
  · obtain ⟨T, rfl, h1, h2⟩ := h
    have hm : m.toList.length = T.carets + 1 := by rw [S_of m, S_size] at h2; exact h2
    rw [S_of m]
    by_cases ok : okL m.toList
    · exact ⟨_, _, fun w => (specBr_yes T h1 _ hm w).mono fun e w' h => ⟨h.1 ok, h.2.2⟩, fun w => (implBr_yes T h1 _ hm w).mono fun e w' h => ⟨h.1 ok, h.2.2⟩⟩
    · exact ⟨_, _, fun w => (specBr_yes T h1 _ hm w).mono fun e w' h => ⟨h.2.1 ok, h.2.2⟩, fun w => (implBr_yes T h1 _ hm w).mono fun e w' h => ⟨h.2.1 ok, h.2.2⟩⟩
  · exact ⟨_, _, specBr_no s m h, implBr_no s m h⟩
