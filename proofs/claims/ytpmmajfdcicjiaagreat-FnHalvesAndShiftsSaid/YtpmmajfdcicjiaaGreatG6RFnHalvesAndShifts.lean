import Derived.Test.YtpmmajfdcicjiaaGreatG1RFnHalvesAndShifts
import Derived.Test.YtpmmajfdcicjiaaGreatG2RFnHalvesAndShifts
import Derived.Test.YtpmmajfdcicjiaaGreatProg
import Derived.Test.YtpmmajfdcicjiaaGreatG5RFnHalvesAndShifts
import Derived.Test.YtpmmajfdcicjiaaGreatG3RFnHalvesAndShifts
import Derived.Deep.LoopGhost
import Derived.Test.YtpmmajfdcicjiaaGreatG4RFnHalvesAndShifts
/- Pairs reduced, as the program has them. -/
namespace Go.Proofs.YtpmmajfdcicjiaaGreat.N
open Go.RowKit
set_option linter.unusedVariables false
set_option linter.unusedSimpArgs false

def ix : List Int → Int → Nat → Int
  | [], _, _ => -1
  | x :: l, n, k => if x = n then (k : Int) else ix l n (k + 1)
theorem ix_ge : ∀ (l : List Int) (n : Int) (k : Nat), (0 ≤ ix l n k ↔ n ∈ l) ∧ -1 ≤ ix l n k
  | [], n, k => by simp [ix]
  | x :: l, n, k => by
    simp only [ix, List.mem_cons]
    by_cases h : x = n
    · rw [if_pos h]; exact ⟨⟨fun _ => .inl h.symm, fun _ => by omega⟩, by omega⟩
    · rw [if_neg h]
      obtain ⟨h1, h2⟩ := ix_ge l n (k + 1)
      refine ⟨⟨fun h' => .inr (h1.1 h'), fun h' => ?_⟩, h2⟩
      rcases h' with e | e
      · exact absurd e.symm h
      · exact h1.2 e

set_option maxHeartbeats 1600000 in
theorem indexInt_calls (xs : List Int) (n : Int) (hl : xs.length < 100000000) (v : Value) (w : World) (hv : Reads w v (ints xs)) :
    Calls Tryz.prog 154 #[v, .int .i64 n] w fun e w' => e = .returned (.int .i64 (ix xs n 0)) ∧ w = w' := by
  obtain ⟨A, c, rfl, _, rd⟩ := hv
  rw [ints_length] at *
  have RD := Lib.hid rd
  clear rd
  go_enter Tryz.func154, Tryz.ntmps154
  go_wp2
  go_loop [8] (fun i => ∃ k : Nat, k ≤ xs.length ∧ i = .int .i64 k ∧ Hid (ix (xs.drop k) n k = ix xs n 0)) (fun i => xs.length - (intOf i).toNat)
  case atStart => exact ⟨0, Nat.zero_le _, rfl, rfl⟩
  case round =>
    obtain ⟨k, hk, rfl, HI⟩ := hrel
    by_cases hlt : k < xs.length
    · obtain ⟨ad, rfl, ca⟩ := RD.out (by omega)
      have c1 := ca k _ (ints_get xs k hlt)
      have h0 : (0 : Int) ≤ k := by omega
      have h1 : (k : Int) < xs.length := by omega
      have HD : Hid (xs.drop k = xs[k] :: xs.drop (k + 1)) := List.drop_eq_getElem_cons hlt
      clear ca
      by_cases hx : xs[k] = n
      · have HE : Hid (ix xs n 0 = (k : Int)) := by show _ = _; rw [← HI.out, HD.out, ix, if_pos hx]
        rw [hx] at c1
        clear hx HD
        go_wp2
        go_ret
        exact ⟨by rw [HE.out]; rfl, rfl⟩
      · have HE : Hid (ix (xs.drop (k + 1)) n (k + 1) = ix xs n 0) := by show _ = _; rw [← HI.out, HD.out, ix, if_neg hx]
        have t1 : (n == xs[k]) = false := by rw [beq_eq_false_iff_ne]; exact fun e => hx e.symm
        clear hx HD
        generalize xs[k] = x at *
        go_wp2
        exact ⟨⟨k + 1, by omega, by go_num, HE.out⟩, by simp [intOf]; omega⟩
    · have h1 : (xs.length : Int) ≤ k := by omega
      have HE : Hid (ix xs n 0 = -1) := by show _ = _; rw [← HI.out, List.drop_eq_nil_of_le (by omega)]; rfl
      go_wp2
      go_ret
      exact ⟨by rw [HE.out]; rfl, rfl⟩

theorem containsInt_calls (xs : List Int) (n : Int) (hl : xs.length < 100000000) (v : Value) (w : World) (hv : Reads w v (ints xs)) :
    Calls Tryz.prog 137 #[v, .int .i64 n] w fun e w' => e = .returned (.bool (decide (n ∈ xs))) ∧ w = w' := by
  have C := Lib.hid (indexInt_calls xs n hl v w hv)
  obtain ⟨h1, h2⟩ := ix_ge xs n 0
  by_cases h : n ∈ xs
  · have h3 := h1.2 h
    rw [decide_eq_true h]
    clear h1 h hv
    go_enter Tryz.func137, Tryz.ntmps137
    go_wp2_with fail
    refine (C.out).mono ?_
    rintro e w1 ⟨rfl, rfl⟩
    go_wp2_with fail
    go_ret
    exact ⟨by first | (simp; done) | (simp; omega), rfl⟩
  · have h3 : ¬ 0 ≤ ix xs n 0 := fun h' => h (h1.1 h')
    rw [decide_eq_false h]
    clear h1 h hv
    go_enter Tryz.func137, Tryz.ntmps137
    go_wp2_with fail
    refine (C.out).mono ?_
    rintro e w1 ⟨rfl, rfl⟩
    go_wp2_with fail
    go_ret
    exact ⟨by first | (simp; done) | (simp; omega), rfl⟩

theorem mem_cast (l : List Nat) (x : Nat) : ((x : Int) ∈ l.map fun (n : Nat) => (n : Int)) ↔ x ∈ l := by
  rw [List.mem_map]
  constructor
  · rintro ⟨a, h, e⟩
    obtain rfl : a = x := Int.ofNat.inj e
    exact h
  · intro h
    exact ⟨x, h, rfl⟩

set_option maxHeartbeats 3200000 in
set_option maxRecDepth 100000 in
theorem both_calls (A B : Tr) (hA : A.carets < 10000000) (hB : B.carets < 10000000) (pa pb : Option Addr) (w : World) (ra : Rep w A pa) (rb : Rep w B pb) :
    Calls Tryz.prog 101 #[.agg #[.pointer pa, .pointer pb]] w (GivesN w (bothT A B)) := by
  have X0 := Lib.hid ((Ext.refl w).alloc (.cells #[.pointer pa, .pointer pb] 67))
  have C1 := exposed_calls B 0 pb _ (by omega) (rb.ext X0.out)
  have C2 := fun W (hx : Ext w W) => exposed_calls A 0 pa W (by omega) (ra.ext hx)
  have LA := expo_length A 0
  have LB := expo_length B 0
  have EB : Hid (bothT A B = (expo A 0).filter fun k => (expo B 0).contains k) := rfl
  have LA' : (expo A 0).length < 10000000 := by omega
  have LB' : (expo B 0).length < 10000000 := by omega
  clear ra rb LA LB hA hB
  generalize expo A 0 = fa at *
  generalize expo B 0 = fb at *
  go_enter Tryz.func101, Tryz.ntmps101
  go_wp2_with fail
  refine C1.mono ?_
  rintro e w1 ⟨v1, rfl, o1, x1⟩
  have O1 := Lib.hid o1
  have X1 := Lib.hid (X0.out.trans x1)
  have h1 : w1.cell? ⟨w.heap.size, 0, none⟩ = some (.pointer pa) := x1.cell (by go_simp)
  clear o1 x1
  go_wp2_with fail
  refine (C2 _ X1.out).mono ?_
  rintro e w2 ⟨v2, rfl, o2, x2⟩
  obtain ⟨A2, c2, rfl, _, rd2⟩ := o2.reads
  rw [nats_length] at rd2 ⊢
  have RD := Lib.hid rd2
  have R1 := Lib.hid (O1.out.reads.ext x2)
  have X2 := Lib.hid (X1.out.trans x2)
  clear rd2 o2 x2 h1 O1
  go_wp2_with fail
  go_loopw [3, 14] (fun o i wr => ∃ k : Nat, k ≤ fa.length ∧ i = .int .i64 k ∧ Hid (Own wr w2.heap.size 3 o (nats ((fa.take k).filter fun k => fb.contains k))) ∧ Hid (Ext w2 wr)) (fun _ i _ => fa.length - (intOf i).toNat)
  case atStart => exact ⟨0, Nat.zero_le _, rfl, Own.nil _ _ _, Ext.refl _⟩
  case round =>
    obtain ⟨k, hk, rfl, HO, HX⟩ := hrel
    by_cases hlt : k < fa.length
    · obtain ⟨ad, rfl, ca⟩ := RD.out (by omega)
      have c1 := HX.out.cell (ca k _ (nats_get fa k hlt))
      have h0 : (0 : Int) ≤ k := by omega
      have h1 : (k : Int) < fa.length := by omega
      have FT := Lib.hid (filter_take (fun k => fb.contains k) fa k hlt)
      have LT : Hid (((fa.take k).filter fun k => fb.contains k).length ≤ k) := Nat.le_trans (List.length_filter_le _ _) (List.length_take_le _ _)
      clear ca
      generalize fa[k] = x at *
      have CC := Lib.hid (containsInt_calls (fb.map fun (n : Nat) => (n : Int)) x (by simp; omega) v1 wr (R1.out.ext HX.out))
      have DM : Hid (decide ((x : Int) ∈ fb.map fun (n : Nat) => (n : Int)) = fb.contains x) := by show _ = _; rw [Bool.eq_iff_iff, decide_eq_true_eq, mem_cast]; simp
      cases hc : fb.contains x with
      | false =>
        have FT2 : Hid ((fa.take (k + 1)).filter (fun k => fb.contains k) = (fa.take k).filter (fun k => fb.contains k)) := Lib.hid (by have := FT.out; rw [hc] at this; simpa using this)
        have D2 : Hid (decide ((x : Int) ∈ fb.map fun (n : Nat) => (n : Int)) = false) := Lib.hid (DM.out.trans hc)
        clear hc
        go_wp2_with fail
        refine CC.out.mono ?_
        rw [D2.out]
        rintro e w3 ⟨rfl, rfl⟩
        go_wp2_with fail
        exact ⟨⟨k + 1, by omega, by go_num, FT2.out.symm ▸ HO.out, HX.out⟩, by simp [intOf]; omega⟩
      | true =>
        have FT2 : Hid ((fa.take (k + 1)).filter (fun k => fb.contains k) = (fa.take k).filter (fun k => fb.contains k) ++ [x]) := Lib.hid (by have := FT.out; rw [hc] at this; simpa using this)
        have D2 : Hid (decide ((x : Int) ∈ fb.map fun (n : Nat) => (n : Int)) = true) := Lib.hid (DM.out.trans hc)
        have RL := Lib.hid (Own.lit wr 0 3 #[.int .i64 x] (Nat.zero_le _) (by show 1 ≤ maxLen; decide)).reads
        have O2 := HO.out.ext ((Ext.refl _).alloc (.cells #[.int .i64 x] 3))
        have LL : Hid (((nats ((fa.take k).filter fun k => fb.contains k)).length + (nats [x]).length) * 8 ≤ 140737488355328) := by show _ ≤ _; rw [nats_length, nats_length]; have := LT.out; show (_ + 1) * 8 ≤ _; omega
        have B1 := Lib.hid (HX.out.alloc (.cells #[.int .i64 x] 3)).size
        clear hc
        go_wp2_with fail
        refine CC.out.mono ?_
        rw [D2.out]
        rintro e w3 ⟨rfl, rfl⟩
        go_wp2_with (at_builtin; refine wpList_app rfl (.tmp 21) (.tmp 23) 45 rfl w2.heap.size 3 (.int .i64 0) 8 Tryz.underlying45 infoInt rfl (by omega) _ _ _ (nats [x]) rfl rfl O2 RL.out (nats_one _) LL.out B1.out ?_; intro v4 w4 o4 g4 _)
        have X4 := Lib.hid ((HX.out.alloc _).grown g4 O2.lo)
        rw [nats_append] at o4
        have O4 := Lib.hid o4
        clear o4 g4 O2
        go_wp2_with fail
        exact ⟨⟨k + 1, by omega, by go_num, FT2.out.symm ▸ O4.out, X4.out⟩, by simp [intOf]; omega⟩
    · have h1 : (fa.length : Int) ≤ k := by omega
      have E : Hid (fa.take k = fa) := List.take_of_length_le (by omega)
      go_wp2_with fail
      go_ret
      refine ⟨_, rfl, ?_, X2.out.trans HX.out⟩
      rw [EB.out]
      exact (E.out ▸ HO.out).mono X2.out.size
end Go.Proofs.YtpmmajfdcicjiaaGreat.N
/- Exposed carets, drops and reductions of texts, as the reference has them. -/
namespace Go.Proofs.YtpmmajfdcicjiaaGreat.N
open Go.RowKit
set_option linter.unusedVariables false
set_option linter.unusedSimpArgs false

set_option maxHeartbeats 3200000 in
set_option maxRecDepth 100000 in
theorem trExposed_calls (l : List UInt8) (hl : l.length < 1000000) (w : World) :
    Calls Tryz.prog 134 #[.string (S l)] w (GivesN w (exS false l 0)) := by
  go_enter Tryz.func134, Tryz.ntmps134
  go_wp2_with fail
  go_loopw [3, 4, 5] (fun o n i wr => ∃ (j k : Nat) (acc : List Nat), j ≤ l.length ∧ k ≤ j ∧ i = .int .i64 j ∧ n = .int .i64 k ∧ Hid (acc.length ≤ j ∧ exS false l 0 = acc ++ exS (prev l j) (l.drop j) k) ∧ Hid (Own wr w.heap.size 3 o (nats acc)) ∧ Hid (Ext w wr)) (fun _ _ i _ => l.length - (intOf i).toNat)
  case atStart => exact ⟨0, 0, [], Nat.zero_le _, Nat.le_refl _, rfl, rfl, ⟨Nat.le_refl _, rfl⟩, Own.nil _ _ _, Ext.refl _⟩
  case round =>
    obtain ⟨j, k, acc, hj, hk, rfl, rfl, HE, HO, HX⟩ := hrel
    by_cases hlt : j < l.length
    · obtain ⟨c, hc⟩ : ∃ c, l[j]? = some c := ⟨_, List.getElem?_eq_getElem hlt⟩
      have ST := exS_step l j k c hc
      have TE := ex_test l j hlt
      have h1 : (j : Int) < (S l).size := by show (j : Int) < (l.length : Nat); omega
      have h0 : (0 : Int) ≤ j := by omega
      obtain ⟨x1, x2⟩ := s_at (S l) j c (by rw [S_toList]; exact hc)
      have SE : Hid ((S l).extract (j - 1) (j + 3) = S ((l.take (j + 3)).drop (j - 1))) := S_extract l (j - 1) (j + 3)
      have SZ : Hid ((S l).size = l.length) := rfl
      have KT : Hid ((if c = 46 then k + 1 else k) ≤ j + 1) := by show _ ≤ _; split <;> omega
      by_cases hT : 0 < j ∧ j + 2 < l.length ∧ (l.take (j + 3)).drop (j - 1) = [40, 46, 46, 41]
      · have hcc : c = 46 := by
          have e1 : (l.take (j + 3)).drop (j - 1) = (l.drop (j - 1)).take 4 := by rw [List.drop_take]; congr 1; omega
          have e2 : ((l.take (j + 3)).drop (j - 1))[1]? = some 46 := by rw [hT.2.2]; rfl
          rw [e1, List.getElem?_take_of_lt (by omega), List.getElem?_drop, show j - 1 + 1 = j from by omega, hc] at e2
          exact Option.some.inj e2
        subst hcc
        have HE2 : Hid ((acc ++ [k]).length ≤ j + 1 ∧ exS false l 0 = (acc ++ [k]) ++ exS (prev l (j + 1)) (l.drop (j + 1)) (k + 1)) := by
          refine ⟨by simp; exact HE.out.1, ?_⟩
          rw [HE.out.2, ST, TE, decide_eq_true hT, List.append_assoc]; rfl
        have t1 : (0 : Int) < j := by omega
        have t2 : (j : Int) + 2 < (S l).size := by rw [SZ.out]; omega
        have t3 : (((S l).extract (j - 1) (j + 3)).toList == [40, 46, 46, 41]) = true := by rw [SE.out, S_toList, hT.2.2]; rfl
        have t4 : (((46 : UInt8).toNat : Int) == 46) = true := rfl
        have RL := Lib.hid (Own.lit wr 0 3 #[.int .i64 k] (Nat.zero_le _) (by show 1 ≤ maxLen; decide)).reads
        have O2 := HO.out.ext ((Ext.refl _).alloc (.cells #[.int .i64 k] 3))
        have LL : Hid (((nats acc).length + (nats [k]).length) * 8 ≤ 140737488355328) := by show _ ≤ _; rw [nats_length, nats_length]; have := HE.out.1; show (_ + 1) * 8 ≤ _; omega
        have B1 := Lib.hid (HX.out.alloc (.cells #[.int .i64 k] 3)).size
        clear hc ST TE hT
        go_wp2_with (at_builtin; refine wpList_app rfl (.tmp 30) (.tmp 32) 45 rfl w.heap.size 3 (.int .i64 0) 8 Tryz.underlying45 infoInt rfl (by omega) _ _ _ (nats [k]) rfl rfl O2 RL.out (nats_one _) LL.out B1.out ?_; intro v4 w4 o4 g4 _)
        have X4 := Lib.hid ((HX.out.alloc _).grown g4 O2.lo)
        rw [nats_append] at o4
        have O4 := Lib.hid o4
        clear o4 g4 O2
        go_wp2_with fail
        exact ⟨⟨j + 1, k + 1, acc ++ [k], by omega, by omega, by go_num, by go_num, HE2.out, O4.out, X4.out⟩, by simp [intOf]; omega⟩
      · have HE2 : Hid (acc.length ≤ j + 1 ∧ exS false l 0 = acc ++ exS (prev l (j + 1)) (l.drop (j + 1)) (if c = 46 then k + 1 else k)) := by
          refine ⟨by have := HE.out.1; omega, ?_⟩
          rw [HE.out.2, ST, TE, decide_eq_false hT]; rfl
        have TT : (0 < j → j + 2 < l.length → (((S l).extract (j - 1) (j + 3)).toList == [40, 46, 46, 41]) = false) := by
          intro a b
          rw [SE.out, S_toList, beq_eq_false_iff_ne]
          exact fun e => hT ⟨a, b, e⟩
        clear hc ST TE hT
        rcases Nat.eq_zero_or_pos j with q0 | q0
        · subst q0
          clear TT
          by_cases c1 : c = 46
          · have t1 : ((c.toNat : Int) == 46) = true := by subst c1; rfl
            have HE3 := Lib.hid (by have := HE2.out; rw [if_pos c1] at this; exact this)
            clear c1
            go_wp2_with fail
            exact ⟨⟨0 + 1, k + 1, acc, by omega, by omega, by go_num, by go_num, HE3.out, HO.out, HX.out⟩, by simp [intOf]; omega⟩
          · have t1 : ((c.toNat : Int) == 46) = false := byte_ne c1
            have HE3 := Lib.hid (by have := HE2.out; rw [if_neg c1] at this; exact this)
            clear c1
            go_wp2_with fail
            exact ⟨⟨0 + 1, k, acc, by omega, by omega, by go_num, by go_num, HE3.out, HO.out, HX.out⟩, by simp [intOf]; omega⟩
        · have t2 : (0 : Int) < j := by omega
          by_cases q1 : j + 2 < l.length
          · have t3 : (j : Int) + 2 < (S l).size := by rw [SZ.out]; omega
            have t4 := TT q0 q1
            clear TT
            by_cases c1 : c = 46
            · have t1 : ((c.toNat : Int) == 46) = true := by subst c1; rfl
              have HE3 := Lib.hid (by have := HE2.out; rw [if_pos c1] at this; exact this)
              clear c1
              go_wp2_with fail
              exact ⟨⟨j + 1, k + 1, acc, by omega, by omega, by go_num, by go_num, HE3.out, HO.out, HX.out⟩, by simp [intOf]; omega⟩
            · have t1 : ((c.toNat : Int) == 46) = false := byte_ne c1
              have HE3 := Lib.hid (by have := HE2.out; rw [if_neg c1] at this; exact this)
              clear c1
              go_wp2_with fail
              exact ⟨⟨j + 1, k, acc, by omega, by omega, by go_num, by go_num, HE3.out, HO.out, HX.out⟩, by simp [intOf]; omega⟩
          · have t3 : ¬ (j : Int) + 2 < (S l).size := by rw [SZ.out]; omega
            have t4 : ((S l).size : Int) ≤ (j : Int) + 2 := by omega
            clear TT
            by_cases c1 : c = 46
            · have t1 : ((c.toNat : Int) == 46) = true := by subst c1; rfl
              have HE3 := Lib.hid (by have := HE2.out; rw [if_pos c1] at this; exact this)
              clear c1
              go_wp2_with fail
              exact ⟨⟨j + 1, k + 1, acc, by omega, by omega, by go_num, by go_num, HE3.out, HO.out, HX.out⟩, by simp [intOf]; omega⟩
            · have t1 : ((c.toNat : Int) == 46) = false := byte_ne c1
              have HE3 := Lib.hid (by have := HE2.out; rw [if_neg c1] at this; exact this)
              clear c1
              go_wp2_with fail
              exact ⟨⟨j + 1, k, acc, by omega, by omega, by go_num, by go_num, HE3.out, HO.out, HX.out⟩, by simp [intOf]; omega⟩
    · have h1 : ((S l).size : Int) ≤ j := by show ((l.length : Nat) : Int) ≤ j; omega
      have HE2 : Hid (exS false l 0 = acc) := by
        show _ = _
        rw [HE.out.2, List.drop_eq_nil_of_le (by omega)]; simp [exS]
      go_wp2_with fail
      go_ret
      exact ⟨_, rfl, HE2.out.symm ▸ HO.out, HX.out⟩

theorem dots_snoc (l : List UInt8) (c : UInt8) : dots (l ++ [c]) = dots l + if c = 46 then 1 else 0 := by
  simp [dots, List.countP_append, List.countP_cons]
theorem dots_le (l : List UInt8) : dots l ≤ l.length := List.countP_le_length
set_option maxHeartbeats 3200000 in
set_option maxRecDepth 100000 in
theorem trDrop_calls (a b : List UInt8) (hl : a.length + b.length < 1000000) (w : World) :
    Calls Tryz.prog 100 #[.string (S (a ++ 40 :: 46 :: 46 :: 41 :: b)), .int .i64 (dots a)] w fun e w' => e = .returned (.string (S (a ++ 46 :: b))) ∧ ∃ n, w' = w.drewN n := by
  have LN : Hid ((a ++ 40 :: 46 :: 46 :: 41 :: b).length = a.length + b.length + 4) := by simp [Hid]; omega
  have E1 : Hid ((a ++ 40 :: 46 :: 46 :: 41 :: b).take a.length = a) := by simp [Hid]
  have E2 : Hid ((a ++ 40 :: 46 :: 46 :: 41 :: b).drop (a.length + 4) = b) := by
    show _ = _
    rw [List.drop_append, List.drop_eq_nil_of_le (by omega), show a.length + 4 - a.length = 4 from by omega]; rfl
  have D1 : Hid (dots ((a ++ 40 :: 46 :: 46 :: 41 :: b).take (a.length + 1)) = dots a) := by
    show _ = _
    rw [List.take_append, show a.length + 1 - a.length = 1 from by omega, List.take_of_length_le (by omega)]
    simp [dots, List.countP_append]
  have G1 : Hid (∀ j, j < a.length → (a ++ 40 :: 46 :: 46 :: 41 :: b)[j]? = some 46 → dots ((a ++ 40 :: 46 :: 46 :: 41 :: b).take j) < dots a) := by
    intro j hj h
    rw [List.getElem?_append_left hj] at h
    rw [List.take_append_of_le_length (by omega)]
    have h2 : a = a.take j ++ 46 :: a.drop (j + 1) := by
      have h3 := List.take_append_drop j a
      have h4 : a.drop j = a[j] :: a.drop (j + 1) := List.drop_eq_getElem_cons hj
      rw [h4] at h3
      rw [List.getElem?_eq_getElem hj] at h
      rw [Option.some.inj h] at h3
      exact h3.symm
    have h5 : dots a = dots (a.take j) + dots (46 :: a.drop (j + 1)) := by rw [← dots_app, ← h2]
    have h6 : dots (46 :: a.drop (j + 1)) = dots (a.drop (j + 1)) + 1 := by simp [dots]
    omega
  have G2 : Hid ((a ++ 40 :: 46 :: 46 :: 41 :: b)[a.length]? = some 40) := by simp [Hid]
  have G3 : Hid ((a ++ 40 :: 46 :: 46 :: 41 :: b)[a.length + 1]? = some 46) := by
    show _ = _
    rw [List.getElem?_append_right (by omega), show a.length + 1 - a.length = 1 from by omega]; rfl
  have RS : Hid ((S a ++ ⟨#[46]⟩) ++ S b = S (a ++ 46 :: b)) := by
    show (S a ++ S [46]) ++ S b = _
    rw [S_append, S_append]; simp
  have DK := dots_le a
  generalize (a ++ 40 :: 46 :: 46 :: 41 :: b) = l at *
  generalize hk : dots a = k at *
  go_enter Tryz.func100, Tryz.ntmps100
  go_wp2_with fail
  go_loop [5, 6] (fun n i => ∃ j : Nat, j ≤ a.length + 1 ∧ i = .int .i64 j ∧ n = .int .i64 (dots (l.take j))) (fun _ i => a.length + 2 - (intOf i).toNat)
  case atStart => exact ⟨0, Nat.zero_le _, rfl, rfl⟩
  case round =>
    obtain ⟨j, hj, rfl, rfl⟩ := hrel
    have b1 := dots_le (l.take j)
    have b2 : (l.take j).length ≤ j := List.length_take_le _ _
    have b3 : (0 : Int) ≤ dots (l.take j) ∧ (dots (l.take j) : Int) ≤ j := by omega
    clear b1 b2
    have hlt : j < l.length := by rw [LN.out]; omega
    obtain ⟨c, hc⟩ : ∃ c, l[j]? = some c := ⟨_, List.getElem?_eq_getElem hlt⟩
    have ST : dots (l.take (j + 1)) = dots (l.take j) + if c = 46 then 1 else 0 := by
      rw [List.take_add_one, hc]; exact dots_snoc _ _
    obtain ⟨x1, x2⟩ := s_at (S l) j c (by rw [S_toList]; exact hc)
    have h1 : (j : Int) < (S l).size := by show (j : Int) < (l.length : Nat); omega
    have h0 : (0 : Int) ≤ j := by omega
    by_cases hl2 : j = a.length + 1
    · obtain rfl : c = 46 := by rw [hl2, G3.out] at hc; exact (Option.some.inj hc).symm
      have DD : dots (l.take j) = k := by rw [hl2]; exact D1.out
      rw [DD]
      have t1 : (((46 : UInt8).toNat : Int) == 46) = true := rfl
      have SZ : Hid ((S l).size = a.length + b.length + 4) := LN.out
      have F1 : (S l).extract 0 (j - 1) = S a := by rw [S_extract, hl2, Nat.add_sub_cancel, E1.out]; rfl
      have F2 : (S l).extract (j + 3) (S l).size = S b := by
        rw [S_extract, S_size, List.take_of_length_le (Nat.le_refl _), hl2, E2.out]
      have g1 : (j : Int) + 3 ≤ (S l).size := by rw [SZ.out]; omega
      have g2 : (j : Int) < 1000001 := by omega
      have g3 : (1 : Int) ≤ j := by omega
      have g4 : (9223372036854775807 < (S a).size + 1) = False := by rw [S_size]; simp; omega
      have g5 : (9223372036854775807 < (S a).size + 1 + (S b).size) = False := by rw [S_size, S_size]; simp; omega
      clear ST hc hl2 DD
      go_wp2_with fail
      go_region
      go_wp2_with fail
      go_ret
      exact ⟨by rw [RS.out]; rfl, 1, rfl⟩
    · by_cases c1 : c = 46
      · have hj2 : j < a.length := by
          rcases Nat.lt_or_ge j a.length with h | h
          · exact h
          · have e : j = a.length := by omega
            rw [e, G2.out, c1] at hc
            cases hc
        have hlt2 := G1.out j hj2 (by rw [hc, c1])
        have t1 : ((c.toNat : Int) == 46) = true := by subst c1; rfl
        have t2 : (((dots (l.take j) : Nat) : Int) == (k : Int)) = false := by rw [beq_eq_false_iff_ne]; omega
        rw [if_pos c1] at ST
        have ST := Lib.hid ST
        clear c1 hc hlt2
        go_wp2_with fail
        exact ⟨⟨j + 1, by omega, by go_num, by rw [ST.out]; go_num⟩, by simp [intOf]; omega⟩
      · have t1 : ((c.toNat : Int) == 46) = false := byte_ne c1
        rw [if_neg c1] at ST
        have ST := Lib.hid ST
        clear c1 hc
        go_wp2_with fail
        exact ⟨⟨j + 1, by omega, by go_num, by rw [ST.out]; go_num⟩, by simp [intOf]; omega⟩
/-- The drop of an exposed caret. -/
theorem trDrop_tree (T : Tr) (k : Nat) (hk : k ∈ expo T 0) (hT : T.carets < 1000) (w : World) :
    Calls Tryz.prog 100 #[.string (tx T), .int .i64 k] w fun e w' => e = .returned (.string (tx (without T k))) ∧ ∃ n, w' = w.drewN n := by
  obtain ⟨a, b, e1, e2, e3⟩ := drop_txt T k hk
  have hl := T.txt_length
  rw [e1] at hl
  simp at hl
  rw [tx, tx, e1, e2, ← e3]
  exact trDrop_calls a b (by omega) w

set_option maxHeartbeats 1600000 in
theorem l1Has_calls (xs : List Int) (n : Int) (hl : xs.length < 100000000) (v : Value) (w : World) (hv : Reads w v (ints xs)) :
    Calls Tryz.prog 135 #[v, .int .i64 n] w fun e w' => e = .returned (.bool (decide (n ∈ xs))) ∧ w = w' := by
  obtain ⟨A, c, rfl, _, rd⟩ := hv
  rw [ints_length] at *
  have RD := Lib.hid rd
  clear rd
  go_enter Tryz.func135, Tryz.ntmps135
  go_wp2_with fail
  go_loop [9] (fun i => ∃ k : Nat, k ≤ xs.length ∧ i = .int .i64 k ∧ Hid ((n ∈ xs) ↔ (n ∈ xs.drop k))) (fun i => xs.length - (intOf i).toNat)
  case atStart => exact ⟨0, Nat.zero_le _, rfl, Iff.rfl⟩
  case round =>
    obtain ⟨k, hk, rfl, HI⟩ := hrel
    by_cases hlt : k < xs.length
    · obtain ⟨ad, rfl, ca⟩ := RD.out (by omega)
      have c1 := ca k _ (ints_get xs k hlt)
      have h0 : (0 : Int) ≤ k := by omega
      have h1 : (k : Int) < xs.length := by omega
      have HD : Hid (xs.drop k = xs[k] :: xs.drop (k + 1)) := List.drop_eq_getElem_cons hlt
      clear ca
      by_cases hx : xs[k] = n
      · have HE : Hid (decide (n ∈ xs) = true) := by show _ = _; rw [decide_eq_true_eq, HI.out, HD.out, hx]; exact List.mem_cons_self
        rw [hx] at c1
        clear hx HD
        go_wp2
        go_ret
        exact ⟨by rw [HE.out]; rfl, rfl⟩
      · have HE : Hid ((n ∈ xs) ↔ (n ∈ xs.drop (k + 1))) := by
          show _ ↔ _
          rw [HI.out, HD.out, List.mem_cons]
          exact ⟨fun h => h.resolve_left (fun e => hx e.symm), .inr⟩
        have t1 : (xs[k] == n) = false := by rw [beq_eq_false_iff_ne]; exact hx
        clear hx HD
        generalize xs[k] = x at *
        go_wp2
        exact ⟨⟨k + 1, by omega, by go_num, HE.out⟩, by simp [intOf]; omega⟩
    · have h1 : (xs.length : Int) ≤ k := by omega
      have HE : Hid (decide (n ∈ xs) = false) := by show _ = _; rw [decide_eq_false_iff_not, HI.out, List.drop_eq_nil_of_le (by omega)]; simp
      go_wp2
      go_ret
      exact ⟨by rw [HE.out]; rfl, rfl⟩

set_option maxHeartbeats 3200000 in
set_option maxRecDepth 100000 in
theorem prBoth_calls (A B : Tr) (hA : A.carets < 1000) (hB : B.carets < 1000) (w : World) :
    Calls Tryz.prog 99 #[.agg #[.string (tx A), .string (tx B)]] w (GivesN w (bothT A B)) := by
  have X0 := Lib.hid ((Ext.refl w).alloc (.cells #[.string (tx A), .string (tx B)] 25))
  have C1 := Lib.hid (fun W => trExposed_calls B.txt (by have := B.txt_length; omega) W)
  have C2 := Lib.hid (fun W => trExposed_calls A.txt (by have := A.txt_length; omega) W)
  rw [exS_txt] at C1 C2
  have LA := expo_length A 0
  have LB := expo_length B 0
  have EB : Hid (bothT A B = (expo A 0).filter fun k => (expo B 0).contains k) := rfl
  have LA' : (expo A 0).length < 10000000 := by omega
  have LB' : (expo B 0).length < 10000000 := by omega
  clear LA LB hA hB
  generalize expo A 0 = fa at *
  generalize expo B 0 = fb at *
  go_enter Tryz.func99, Tryz.ntmps99
  go_wp2_with fail
  refine (C1.out _).mono ?_
  rintro e w1 ⟨v1, rfl, o1, x1⟩
  have O1 := Lib.hid o1
  have X1 := Lib.hid (X0.out.trans x1)
  have h1 : w1.cell? ⟨w.heap.size, 0, none⟩ = some (.string (tx A)) := x1.cell (by go_simp)
  clear o1 x1
  go_wp2_with fail
  refine (C2.out _).mono ?_
  rintro e w2 ⟨v2, rfl, o2, x2⟩
  obtain ⟨A2, c2, rfl, _, rd2⟩ := o2.reads
  rw [nats_length] at rd2 ⊢
  have RD := Lib.hid rd2
  have R1 := Lib.hid (O1.out.reads.ext x2)
  have X2 := Lib.hid (X1.out.trans x2)
  clear rd2 o2 x2 h1 O1
  go_wp2_with fail
  go_loopw [3, 14] (fun o i wr => ∃ k : Nat, k ≤ fa.length ∧ i = .int .i64 k ∧ Hid (Own wr w2.heap.size 3 o (nats ((fa.take k).filter fun k => fb.contains k))) ∧ Hid (Ext w2 wr)) (fun _ i _ => fa.length - (intOf i).toNat)
  case atStart => exact ⟨0, Nat.zero_le _, rfl, Own.nil _ _ _, Ext.refl _⟩
  case round =>
    obtain ⟨k, hk, rfl, HO, HX⟩ := hrel
    by_cases hlt : k < fa.length
    · obtain ⟨ad, rfl, ca⟩ := RD.out (by omega)
      have c1 := HX.out.cell (ca k _ (nats_get fa k hlt))
      have h0 : (0 : Int) ≤ k := by omega
      have h1 : (k : Int) < fa.length := by omega
      have FT := Lib.hid (filter_take (fun k => fb.contains k) fa k hlt)
      have LT : Hid (((fa.take k).filter fun k => fb.contains k).length ≤ k) := Nat.le_trans (List.length_filter_le _ _) (List.length_take_le _ _)
      clear ca
      generalize fa[k] = x at *
      have CC := Lib.hid (l1Has_calls (fb.map fun (n : Nat) => (n : Int)) x (by simp; omega) v1 wr (R1.out.ext HX.out))
      have DM : Hid (decide ((x : Int) ∈ fb.map fun (n : Nat) => (n : Int)) = fb.contains x) := by show _ = _; rw [Bool.eq_iff_iff, decide_eq_true_eq, mem_cast]; simp
      cases hc : fb.contains x with
      | false =>
        have FT2 : Hid ((fa.take (k + 1)).filter (fun k => fb.contains k) = (fa.take k).filter (fun k => fb.contains k)) := Lib.hid (by have := FT.out; rw [hc] at this; simpa using this)
        have D2 : Hid (decide ((x : Int) ∈ fb.map fun (n : Nat) => (n : Int)) = false) := Lib.hid (DM.out.trans hc)
        clear hc
        go_wp2_with fail
        refine CC.out.mono ?_
        rw [D2.out]
        rintro e w3 ⟨rfl, rfl⟩
        go_wp2_with fail
        exact ⟨⟨k + 1, by omega, by go_num, FT2.out.symm ▸ HO.out, HX.out⟩, by simp [intOf]; omega⟩
      | true =>
        have FT2 : Hid ((fa.take (k + 1)).filter (fun k => fb.contains k) = (fa.take k).filter (fun k => fb.contains k) ++ [x]) := Lib.hid (by have := FT.out; rw [hc] at this; simpa using this)
        have D2 : Hid (decide ((x : Int) ∈ fb.map fun (n : Nat) => (n : Int)) = true) := Lib.hid (DM.out.trans hc)
        have RL := Lib.hid (Own.lit wr 0 3 #[.int .i64 x] (Nat.zero_le _) (by show 1 ≤ maxLen; decide)).reads
        have O2 := HO.out.ext ((Ext.refl _).alloc (.cells #[.int .i64 x] 3))
        have LL : Hid (((nats ((fa.take k).filter fun k => fb.contains k)).length + (nats [x]).length) * 8 ≤ 140737488355328) := by show _ ≤ _; rw [nats_length, nats_length]; have := LT.out; show (_ + 1) * 8 ≤ _; omega
        have B1 := Lib.hid (HX.out.alloc (.cells #[.int .i64 x] 3)).size
        clear hc
        go_wp2_with fail
        refine CC.out.mono ?_
        rw [D2.out]
        rintro e w3 ⟨rfl, rfl⟩
        go_wp2_with (at_builtin; refine wpList_app rfl (.tmp 21) (.tmp 23) 45 rfl w2.heap.size 3 (.int .i64 0) 8 Tryz.underlying45 infoInt rfl (by omega) _ _ _ (nats [x]) rfl rfl O2 RL.out (nats_one _) LL.out B1.out ?_; intro v4 w4 o4 g4 _)
        have X4 := Lib.hid ((HX.out.alloc _).grown g4 O2.lo)
        rw [nats_append] at o4
        have O4 := Lib.hid o4
        clear o4 g4 O2
        go_wp2_with fail
        exact ⟨⟨k + 1, by omega, by go_num, FT2.out.symm ▸ O4.out, X4.out⟩, by simp [intOf]; omega⟩
    · have h1 : (fa.length : Int) ≤ k := by omega
      have E : Hid (fa.take k = fa) := List.take_of_length_le (by omega)
      go_wp2_with fail
      go_ret
      refine ⟨_, rfl, ?_, X2.out.trans HX.out⟩
      rw [EB.out]
      exact (E.out ▸ HO.out).mono X2.out.size
end Go.Proofs.YtpmmajfdcicjiaaGreat.N
