import Derived.Test.YtpmmajfdcicjiaaBa
import Derived.Test.YtpmmajfdcicjiaaPu
import Derived.Test.YtpmmajfdcicjiaaSl
import Derived.Test.YtpmmajfdcicjiaaProg
import Derived.Test.YtpmmajfdcicjiaaTs
import Derived.Test.YtpmmajfdcicjiaaPp
import Derived.Test.YtpmmajfdcicjiaaPx
import Derived.Test.YtpmmajfdcicjiaaPb
import Derived.Test.YtpmmajfdcicjiaaWl
import Derived.Test.YtpmmajfdcicjiaaTp
import Derived.Test.YtpmmajfdcicjiaaT3
import Derived.Deep.LoopGhost
/- Texts filled, as the reference has them. -/
namespace Go.Proofs.Ytpmmajfdcicjiaa.N
open Go.RowKit
set_option linter.unusedVariables false
set_option linter.unusedSimpArgs false

theorem one_byte (l : List UInt8) (j : Nat) (c : UInt8) (h : l[j]? = some c) : (S l).extract j (j + 1) = S [c] := by
  obtain ⟨h1, h2⟩ := List.getElem?_eq_some_iff.1 h
  rw [S_extract, List.take_add_one, h, List.drop_append]
  simp [List.length_take, Nat.min_eq_left (Nat.le_of_lt h1)]
set_option maxHeartbeats 3200000 in
set_option maxRecDepth 100000 in
theorem prFill_calls (l : List UInt8) (ps : List ByteArray) (hl : l.length < 1000000) (hp : ps.length < 1000000) (hd : dots l ≤ ps.length) (hb : ∀ p ∈ ps, p.size ≤ 100000) (v : Value) (w : World) (hv : Reads w v (strs ps)) :
    Calls Try.prog 101 #[.string (S l), v] w fun e w' => e = .returned (.string (S (fillP l ps))) ∧ w = w' := by
  obtain ⟨A, cp, rfl, _, rd⟩ := hv
  rw [strs_length] at *
  have RD := Lib.hid rd
  have HD := Lib.hid (And.intro hd hb)
  clear rd hd hb
  go_enter Try.func101, Try.ntmps101
  go_wp2_with fail
  go_loop [5, 6, 7] (fun o n i => ∃ (j k : Nat) (acc : List UInt8), j ≤ l.length ∧ k ≤ j ∧ i = .int .i64 j ∧ n = .int .i64 k ∧ o = .string (S acc) ∧ Hid (k = dots (l.take j)) ∧ Hid (acc.length ≤ j * 100001) ∧ Hid (fillP l ps = acc ++ fillP (l.drop j) (ps.drop k))) (fun _ _ i => l.length - (intOf i).toNat)
  case atStart => exact ⟨0, 0, [], Nat.zero_le _, Nat.le_refl _, rfl, rfl, rfl, rfl, Nat.zero_le _, rfl⟩
  case round =>
    obtain ⟨j, k, acc, hj, hk, rfl, rfl, rfl, HK, HA, HF⟩ := hrel
    by_cases hlt : j < l.length
    · obtain ⟨c, hc⟩ : ∃ c, l[j]? = some c := ⟨_, List.getElem?_eq_getElem hlt⟩
      have h1 : (j : Int) < (S l).size := by show (j : Int) < (l.length : Nat); omega
      have h0 : (0 : Int) ≤ j := by omega
      obtain ⟨x1, x2⟩ := s_at (S l) j c (by rw [S_toList]; exact hc)
      have ST : dots (l.take (j + 1)) = dots (l.take j) + if c = 46 then 1 else 0 := by
        rw [List.take_add_one, hc]; simp [dots, List.countP_append, List.countP_cons]
      by_cases c1 : c = 46
      · subst c1
        have hk2 : k < ps.length := by rw [HK.out]; exact Nat.lt_of_lt_of_le (dots_lt l j hc) HD.out.1
        obtain ⟨ad, rfl, ca⟩ := RD.out (by omega)
        have c1 := ca k _ (strs_get ps k hk2)
        have F2 := Lib.hid (fill_step_dot l ps j k hc hk2)
        have PB := Lib.hid (HD.out.2 ps[k] (List.getElem_mem hk2))
        have t1 : (((46 : UInt8).toNat : Int) == 46) = true := rfl
        have k1 : (k : Int) < ps.length := by omega
        have k0 : (0 : Int) ≤ k := by omega
        have HK2 : Hid (k + 1 = dots (l.take (j + 1))) := by show _ = _; rw [ST, ← HK.out]; rfl
        generalize ps[k] = p at *
        have g4 : (9223372036854775807 < (S acc).size + p.size) = False := by rw [S_size]; have := HA.out; have := PB.out; simp; omega
        have EA : Hid (S acc ++ p = S (acc ++ p.toList)) := by show _ = _; rw [← S_append, ← S_of]
        have LA : Hid ((acc ++ p.toList).length ≤ (j + 1) * 100001) := by
          have := HA.out; have := PB.out
          show _ ≤ _
          rw [List.length_append, s_len]; omega
        have FF : Hid (fillP l ps = (acc ++ p.toList) ++ fillP (l.drop (j + 1)) (ps.drop (k + 1))) := by show _ = _; rw [HF.out, F2.out, List.append_assoc]
        clear hc ca ST F2 PB
        go_wp2_with fail
        rw [EA.out]
        exact ⟨⟨j + 1, k + 1, acc ++ p.toList, by omega, by omega, by go_num, by go_num, rfl, HK2.out, LA.out, FF.out⟩, by simp [intOf]; omega⟩
      · have t1 : ((c.toNat : Int) == 46) = false := byte_ne c1
        have F2 := Lib.hid (fill_step_other l ps j k c hc c1)
        have OB := one_byte l j c hc
        have HK2 : Hid (k = dots (l.take (j + 1))) := by show _ = _; rw [ST, ← HK.out, if_neg c1]; rfl
        have g4 : (9223372036854775807 < (S acc).size + 1) = False := by rw [S_size]; have := HA.out; simp; omega
        have g5 : (9223372036854775807 < (S acc).size + (S [c]).size) = False := by rw [S_size, S_size]; have := HA.out; simp; omega
        have EA : Hid (S acc ++ S [c] = S (acc ++ [c])) := S_append _ _
        have LA : Hid ((acc ++ [c]).length ≤ (j + 1) * 100001) := by
          have := HA.out
          show _ ≤ _
          rw [List.length_append]; simp; omega
        have FF : Hid (fillP l ps = (acc ++ [c]) ++ fillP (l.drop (j + 1)) (ps.drop k)) := by show _ = _; rw [HF.out, F2.out, List.append_assoc]; rfl
        clear hc ST F2 c1
        go_wp2_with fail
        rw [EA.out]
        exact ⟨⟨j + 1, k, acc ++ [c], by omega, by omega, by go_num, by go_num, rfl, HK2.out, LA.out, FF.out⟩, by simp [intOf]; omega⟩
    · have h1 : ((S l).size : Int) ≤ j := by show ((l.length : Nat) : Int) ≤ j; omega
      have E : Hid (fillP l ps = acc) := by show _ = _; rw [HF.out, List.drop_eq_nil_of_le (by omega)]; simp [fillP]
      go_wp2_with fail
      go_ret
      exact ⟨by rw [E.out]; rfl, rfl⟩

def okL (m : List UInt8) : Prop := ∀ c ∈ m, 97 ≤ c.toNat ∧ c.toNat ≤ 122
def ones (m : List UInt8) : List ByteArray := m.map fun c => S [c]
/-- What a text of brackets gives. -/
def BrPost (w : World) (T : Tr) (m : List UInt8) (e : Ending) (w' : World) : Prop :=
  (okL m → e = .returned (.tuple #[.string (S (fillP T.txt (ones m))), .bool true])) ∧ (¬ okL m → e = .returned (.tuple #[.string ⟨#[]⟩, .bool false])) ∧ Ext w w'
theorem ones_take (m : List UInt8) (j : Nat) (c : UInt8) (h : m[j]? = some c) : ones (m.take (j + 1)) = ones (m.take j) ++ [S [c]] := by
  unfold ones; rw [List.take_add_one, h]; simp
theorem ones_length (m : List UInt8) : (ones m).length = m.length := by simp [ones]
theorem ok_step {m : List UInt8} {j : Nat} {c : UInt8} (h : okL (m.take j)) (hc : m[j]? = some c) (h1 : 97 ≤ c.toNat) (h2 : c.toNat ≤ 122) : okL (m.take (j + 1)) := by
  intro d hd
  rw [List.take_add_one, hc] at hd
  rcases List.mem_append.1 hd with hd | hd
  · exact h d hd
  · obtain rfl : d = c := by simpa using hd
    exact ⟨h1, h2⟩
theorem not_ok {m : List UInt8} {j : Nat} {c : UInt8} (hc : m[j]? = some c) (h : ¬ (97 ≤ c.toNat ∧ c.toNat ≤ 122)) : ¬ okL m := fun hh => h (hh c (List.mem_of_getElem? hc))
set_option maxHeartbeats 3200000 in
set_option maxRecDepth 100000 in
theorem specBr_yes (T : Tr) (hT : T.carets ≤ 8) (m : List UInt8) (hm : m.length = T.carets + 1) (w : World) :
    Calls Try.prog 24 #[.string (tx T), .string (S m)] w (BrPost w T m) := by
  have C1 := Lib.hid (trIs_yes T hT)
  have C2 := Lib.hid (fun W => trCarets_calls (tx T) (by have := T.txt_length; show T.txt.length < _; omega) W)
  rw [show (tx T).toList = T.txt from S_toList _, cnt_txt] at C2
  have C3 := Lib.hid (fun v W => prFill_calls T.txt (ones m) (by have := T.txt_length; omega) (by rw [ones_length]; omega) (by rw [dots_txt, ones_length]; omega) (by intro p hp; obtain ⟨c, _, rfl⟩ := List.mem_map.1 hp; show 1 ≤ _; omega) v W)
  have q : ((S m).size : Int) = (T.carets : Int) + 1 := by show ((m.length : Nat) : Int) = _; omega
  have q1 : (((T.carets : Int) + 1) != ((T.carets : Int) + 1)) = false := by simp
  have hT' : (T.carets : Int) ≤ 8 ∧ (0 : Int) ≤ T.carets := by omega
  go_enter Try.func24, Try.ntmps24
  go_wp2_with fail
  refine (C1.out _).mono ?_
  rintro e w1 ⟨rfl, rfl⟩
  go_wp2_with fail
  refine (C2.out _).mono ?_
  rintro e w1 ⟨rfl, rfl⟩
  go_wp2_with fail
  go_loopw [6, 7] (fun o i wr => ∃ j : Nat, j ≤ m.length ∧ i = .int .i64 j ∧ Hid (okL (m.take j)) ∧ Hid (Own wr w.heap.size 9 o (strs (ones (m.take j)))) ∧ Hid (Ext w wr)) (fun _ i _ => m.length - (intOf i).toNat)
  case atStart => exact ⟨0, Nat.zero_le _, rfl, (show okL [] from fun c hc => nomatch hc), Own.nil _ _ _, Ext.refl _⟩
  case round =>
    obtain ⟨j, hj, rfl, HK, HO, HX⟩ := hrel
    by_cases hlt : j < m.length
    · obtain ⟨c, hc⟩ : ∃ c, m[j]? = some c := ⟨_, List.getElem?_eq_getElem hlt⟩
      have h1 : (j : Int) < (S m).size := by show (j : Int) < (m.length : Nat); omega
      have h0 : (0 : Int) ≤ j := by omega
      obtain ⟨x1, x2⟩ := s_at (S m) j c (by rw [S_toList]; exact hc)
      by_cases l1 : c.toNat < 97
      · have NO := Lib.hid (not_ok hc (by omega))
        have d1 : (c.toNat : Int) < 97 := by omega
        clear hc l1
        go_wp2_with fail
        go_ret2
        exact ⟨fun h => absurd h NO.out, fun _ => rfl, HX.out⟩
      · by_cases l2 : 122 < c.toNat
        · have NO := Lib.hid (not_ok hc (by omega))
          have d1 : ¬ (c.toNat : Int) < 97 := by omega
          have d2 : (122 : Int) < c.toNat := by omega
          clear hc l1 l2
          go_wp2_with fail
          go_ret2
          exact ⟨fun h => absurd h NO.out, fun _ => rfl, HX.out⟩
        · have OK2 := Lib.hid (ok_step HK.out hc (by omega) (by omega))
          have OB := one_byte m j c hc
          have OT := Lib.hid (ones_take m j c hc)
          have d1 : ¬ (c.toNat : Int) < 97 := by omega
          have d2 : ¬ (122 : Int) < c.toNat := by omega
          have RL := Lib.hid (Own.lit wr 0 9 #[.string (S [c])] (Nat.zero_le _) (by show 1 ≤ maxLen; decide)).reads
          have O2 := HO.out.ext ((Ext.refl _).alloc (.cells #[.string (S [c])] 9))
          have LL : Hid (((strs (ones (m.take j))).length + (strs [S [c]]).length) * 16 ≤ 140737488355328) := by
            show _ ≤ _; rw [strs_length, strs_length, ones_length]; have : (m.take j).length ≤ j := List.length_take_le _ _; show (_ + 1) * 16 ≤ _; omega
          have B1 := Lib.hid (HX.out.alloc (.cells #[.string (S [c])] 9)).size
          clear hc l1 l2
          go_wp2_with (at_builtin; refine wpList_app rfl (.tmp 35) (.tmp 41) 52 rfl w.heap.size 9 (.string ⟨#[]⟩) 16 Try.underlying52 infoStr rfl (by omega) _ _ _ (strs [S [c]]) rfl rfl O2 RL.out (strs_one _) LL.out B1.out ?_; intro v4 w4 o4 g4 _)
          have X4 := Lib.hid ((HX.out.alloc _).grown g4 O2.lo)
          rw [strs_append] at o4
          have O4 := Lib.hid o4
          clear o4 g4 O2
          go_wp2_with fail
          exact ⟨⟨j + 1, by omega, by go_num, OK2.out, OT.out.symm ▸ O4.out, X4.out⟩, by simp [intOf]; omega⟩
    · have h1 : ((S m).size : Int) ≤ j := by show ((m.length : Nat) : Int) ≤ j; omega
      have E : Hid (m.take j = m) := List.take_of_length_le (by omega)
      have HK2 := Lib.hid (E.out ▸ HK.out)
      have HO2 := Lib.hid (E.out ▸ HO.out)
      go_wp2_with fail
      refine (C3.out _ _ HO2.out.reads).mono ?_
      rintro e w5 ⟨rfl, rfl⟩
      go_wp2_with fail
      go_ret2
      exact ⟨fun _ => rfl, fun h => absurd HK2.out h, HX.out⟩
set_option maxHeartbeats 1600000 in
theorem specBr_no (s m : ByteArray) (h : ¬ ∃ T, s = tx T ∧ T.carets ≤ 8 ∧ m.size = T.carets + 1) (w : World) :
    Calls Try.prog 24 #[.string s, .string m] w fun e w' => e = .returned (.tuple #[.string ⟨#[]⟩, .bool false]) ∧ Ext w w' := by
  by_cases hT : ∃ T, s = tx T ∧ T.carets ≤ 8
  · obtain ⟨T, rfl, hT⟩ := hT
    have C1 := Lib.hid (trIs_yes T hT)
    have C2 := Lib.hid (fun W => trCarets_calls (tx T) (by have := T.txt_length; show T.txt.length < _; omega) W)
    rw [show (tx T).toList = T.txt from S_toList _, cnt_txt] at C2
    have hne : m.size ≠ T.carets + 1 := fun e => h ⟨T, rfl, hT, e⟩
    have q1 : ((m.size : Int) != ((T.carets : Int) + 1)) = true := by rw [bne_iff_ne]; omega
    have hT' : (T.carets : Int) ≤ 8 ∧ (0 : Int) ≤ T.carets := by omega
    clear h hne
    go_enter Try.func24, Try.ntmps24
    go_wp2_with fail
    refine (C1.out _).mono ?_
    rintro e w1 ⟨rfl, rfl⟩
    go_wp2_with fail
    refine (C2.out _).mono ?_
    rintro e w1 ⟨rfl, rfl⟩
    go_wp2_with fail
    go_ret2
    exact ⟨rfl, Ext.refl _⟩
  · have C1 := Lib.hid (trIs_no s hT)
    clear h hT
    go_enter Try.func24, Try.ntmps24
    go_wp2_with fail
    refine (C1.out _).mono ?_
    rintro e w1 ⟨rfl, rfl⟩
    go_wp2_with fail
    go_ret2
    exact ⟨rfl, Ext.refl _⟩
end Go.Proofs.Ytpmmajfdcicjiaa.N
