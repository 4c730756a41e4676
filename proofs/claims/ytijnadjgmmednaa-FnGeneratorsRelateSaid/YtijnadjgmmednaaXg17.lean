import Derived.Test.YtijnadjgmmednaaXg9
import Derived.Test.YtijnadjgmmednaaXg11
/- A part of the proof: lemmas that later parts use. -/
set_option linter.unusedVariables false
set_option linter.unusedSimpArgs false
namespace Go.Proofs.Ytijnadjgmmednaa.N
open Go.RowKit
def bet (A B : Tr) : List Tr := A.chain ++ (B.chain.take (B.chain.length - 1)).reverse
theorem Reps.turned {w : World} {Ts : List Tr} {ps : List (Option Addr)} (h : Reps w Ts ps) (k : Nat) : Reps w (Ts.take k).reverse (ps.take k).reverse := by
  refine ⟨by simp [h.1], fun i T p h1 h2 => ?_⟩
  have hi : i < (Ts.take k).length := by have := (List.getElem?_eq_some_iff.1 h1).1; simpa using this
  have hl : (ps.take k).length = (Ts.take k).length := by simp [h.1]
  rw [List.getElem?_reverse hi] at h1
  rw [List.getElem?_reverse (by omega), hl] at h2
  have hk : (Ts.take k).length - 1 - i < k := by have := List.length_take_le k Ts; omega
  rw [List.getElem?_take_of_lt hk] at h1 h2
  exact h.2 _ T p h1 h2
theorem chain_pos (T : Tr) : 0 < T.chain.length := by
  unfold Tr.chain
  cases T.phi <;> simp [chainF]
theorem bet_length (A B : Tr) (hA : A.carets ≤ 8) (hB : B.carets ≤ 8) : (bet A B).length < 100000 := by
  unfold bet
  have h1 := chain_length A
  have h2 := chain_length B
  have h3 : A.carets * A.carets ≤ 8 * 8 := Nat.mul_le_mul hA hA
  have h4 : B.carets * B.carets ≤ 8 * 8 := Nat.mul_le_mul hB hB
  simp only [List.length_append, List.length_reverse, List.length_take]
  omega
set_option maxHeartbeats 6400000 in
set_option maxRecDepth 100000 in
theorem implBet_yes (A B : Tr) (hc : A.carets = B.carets) (hB : B.carets ≤ 8) (w : World) :
    Calls Try.prog 32 #[.string (tx A), .string (tx B)] w (GivesLS w ((bet A B).map tx) true) := by
  have C1 := Lib.hid (fun W => pairOf_yes A B hc hB W)
  have C2 := Lib.hid (fun p W h => chain_calls A (by omega) p W h)
  have C3 := Lib.hid (fun p W h => chain_calls B (by omega) p W h)
  have CB : Hid (A.chain.length < 1000 ∧ B.chain.length < 1000) := by
    have h1 := chain_length A
    have h2 := chain_length B
    have h3 : A.carets * A.carets ≤ 8 * 8 := Nat.mul_le_mul (by omega) (by omega)
    have h4 : B.carets * B.carets ≤ 8 * 8 := Nat.mul_le_mul hB hB
    exact ⟨by omega, by omega⟩
  have CP := Lib.hid (chain_pos B)
  have CC : Hid (∀ T ∈ bet A B, T.carets < 1000000) := by
    intro T hT
    unfold bet at hT
    rcases List.mem_append.1 hT with h | h
    · have := chain_carets h; omega
    · have := chain_carets (List.mem_of_mem_take (List.mem_reverse.1 h)); omega
  have BD : Hid (bet A B = A.chain ++ (B.chain.take (B.chain.length - 1)).reverse) := rfl
  have BL := Lib.hid (bet_length A B (by omega) hB)
  generalize tx A = a at *
  generalize tx B = b at *
  clear hc hB
  go_enter Try.func32, Try.ntmps32
  go_wp2_with fail
  refine (C1.out _).mono ?_
  rintro e w1 ⟨pa, pb, rfl, rA, rB, x1⟩
  have xa := (Ext.refl w1).alloc (.cells #[.pointer pa, .pointer pb] 82)
  have RA := Lib.hid (rA.ext xa)
  have RB := Lib.hid (rB.ext xa)
  have X1 := Lib.hid (x1.trans xa)
  have HB := Lib.hid (heap_alloc_new w1 (.cells #[.pointer pa, .pointer pb] 82))
  obtain ⟨d0, d1⟩ := cells_of HB.out
  have S1 : Hid (w1.heap.size + 1 = (w1.alloc (.cells #[.pointer pa, .pointer pb] 82)).heap.size) := by show _ = _; simp
  clear rA rB x1 xa
  go_wp2_with fail
  generalize w1.alloc (.cells #[.pointer pa, .pointer pb] 82) = W1 at *
  refine (C3.out _ _ RB.out).mono ?_
  rintro e w2 ⟨v2, ps2, rfl, o2, r2, x2⟩
  have hl2 : B.chain.length = ps2.length := r2.1
  obtain ⟨k, hk⟩ : ∃ k, ps2.length = k + 1 := ⟨ps2.length - 1, by have := CP.out; omega⟩
  obtain ⟨g, c, rfl, hg, hgl⟩ := World.ownsRow.form o2 (by rw [ptrs_length]; omega)
  have hcap : k + 1 ≤ c := by
    rcases o2.2 with ⟨e1, _⟩ | ⟨g', cap, cur, e1, _, _, h3, _⟩
    · cases e1
    · injection e1 with _ _ e3; rw [ptrs_length] at h3; omega
  rw [ptrs_length, hk] at o2 ⊢
  have O2 := Lib.hid (Own.take (A := some ⟨g, 0, none⟩) (n := k + 1) (c := c) o2 k (by omega) (by simp))
  have R2 := Lib.hid r2
  have K2 := Lib.hid (And.intro hl2 hk)
  have X2 := Lib.hid (X1.out.trans x2)
  have RA2 := Lib.hid (RA.out.ext x2)
  have HB2 := Lib.hid (x2.at HB.out)
  have GN : Hid (g ≠ w1.heap.size) := by show _ ≠ _; have := S1.out; omega
  have G2 : Hid (w.heap.size ≤ g) := by show _ ≤ _; have := X1.out.size; omega
  have kb : (k : Int) < 1000 := by have := CB.out.2; omega
  have k0 : (0 : Int) ≤ k := by omega
  have kc : (k : Int) ≤ c := by omega
  have c0 : ¬ c = 0 := by omega
  have RV := Lib.hid (reverse_calls W1.heap.size (ps2.take k) (by rw [List.length_take]; omega) (.slice (some ⟨g, 0, none⟩) k c) w2 (by rw [show ptrs (ps2.take k) = (ptrs ps2).take k from by simp [ptrs]]; exact O2.out))
  clear o2 r2 x2 hk hl2 hcap d0 d1 hg hgl
  go_wp2_with fail
  refine RV.out.mono ?_
  rintro e w3 ⟨rfl, o3, g3⟩
  have X3 := Lib.hid (X2.out.grown g3 (fun j hj => by cases hj; exact G2.out))
  have HB3 : Hid (w3.heap[w1.heap.size]? = some (.cells #[.pointer pa, .pointer pb] 82)) := (g3.block _ (Array.getElem?_eq_some_iff.1 HB2.out).1 (fun ek => GN.out (Option.some.inj ek).symm)).trans HB2.out
  have RA3 := Lib.hid (RA2.out.row O2.out (by decide) g3)
  have R3 := Lib.hid (R2.out.row O2.out (by decide) g3)
  have O3 := Lib.hid o3
  obtain ⟨d0, d1⟩ := cells_of HB3.out
  clear o3 g3
  go_wp2_with fail
  refine (C2.out _ _ RA3.out).mono ?_
  rintro e w4 ⟨v4, ps4, rfl, o4, r4, x4⟩
  have X4 := Lib.hid (X3.out.trans x4)
  have l4 : A.chain.length = ps4.length := r4.1
  have R4 := Lib.hid (r4.append ((R3.out.turned k).ext x4))
  have EB : Hid (bet A B = A.chain ++ (B.chain.take k).reverse) := by
    show _ = _
    rw [BD.out, K2.out.1, K2.out.2]; rfl
  have O4 := o4.mono X3.out.size
  have RR := (O3.out.ext x4).reads
  have LL : Hid (((ptrs ps4).length + (ptrs (ps2.take k).reverse).length) * 8 ≤ 140737488355328) := by
    show _ ≤ _
    rw [ptrs_length, ptrs_length, List.length_reverse, List.length_take, ← l4]
    have := CB.out
    omega
  have LX := Lib.hid X4.out.size
  clear o4 r4 x4 d0 d1 l4
  go_wp2_with (at_builtin; refine wpList_app rfl (.tmp 30) (.tmp 31) 121 rfl w.heap.size 80 (.pointer none) 8 Try.underlying121 infoNode rfl (by omega) _ _ _ (ptrs (ps2.take k).reverse) rfl rfl O4 RR (ptrs_one _) LL.out LX.out ?_; intro v5 w5 o5 g5 _)
  have X5 := Lib.hid (X4.out.grown g5 O4.lo)
  have R5 := Lib.hid (R4.out.row O4 (by decide) g5)
  rw [ptrs_append] at o5
  rw [← EB.out] at R5
  have O5 := Lib.hid o5
  clear o5 g5 O4 RR
  go_wp2_with fail
  refine (textsOf_calls (bet A B) _ v5 _ (by have := BL.out; omega) CC.out O5.out.reads R5.out).mono ?_
  rintro e w6 ⟨v6, rfl, o6, x6⟩
  have O6 := Lib.hid (o6.mono X5.out.size)
  have X6 := Lib.hid (X5.out.trans x6)
  clear o6 x6
  go_wp2_with fail
  go_ret2
  exact ⟨v6, rfl, O6.out, X6.out⟩
theorem implBet_no (s t : ByteArray) (h : ¬ Good s t) (w : World) :
    Calls Try.prog 32 #[.string s, .string t] w (GivesLS w [] false) := by
  have C1 := Lib.hid (fun W => pairOf_no s t h W)
  clear h
  go_enter Try.func32, Try.ntmps32
  go_wp2_with fail
  refine (C1.out _).mono ?_
  rintro e w1 ⟨pa, pb, rfl, x1⟩
  have X1 := Lib.hid (x1.alloc (.cells #[.pointer pa, .pointer pb] 82))
  clear x1
  go_wp2_with fail
  go_ret2
  exact ⟨_, rfl, Own.nil _ _ _, X1.out⟩
theorem brBoth_yes (A B : Tr) (hc : A.carets = B.carets) (hB : B.carets ≤ 8) (w : World) :
    Calls Try.prog 99 #[.string (tx A), .string (tx B)] w fun e w' => e = .returned (.bool true) ∧ Ext w w' := by
  have C1 := Lib.hid (fun W => prGood_yes A B hc hB W)
  go_enter Try.func99, Try.ntmps99
  go_wp2_with fail
  refine (C1.out _).mono ?_
  rintro e w1 ⟨rfl, x1⟩
  go_wp2_with fail
  go_ret
  exact ⟨rfl, x1⟩
theorem brBoth_no (s t : ByteArray) (h : ¬ Good s t) (w : World) :
    Calls Try.prog 99 #[.string s, .string t] w fun e w' => e = .returned (.bool false) ∧ Ext w w' := by
  have C1 := Lib.hid (fun W => prGood_no s t h W)
  clear h
  go_enter Try.func99, Try.ntmps99
  go_wp2_with fail
  refine (C1.out _).mono ?_
  rintro e w1 ⟨rfl, x1⟩
  go_wp2_with fail
  go_ret
  exact ⟨rfl, x1⟩
theorem specBet_no (s t : ByteArray) (h : ¬ Good s t) (w : World) :
    Calls Try.prog 33 #[.string s, .string t] w (GivesLS w [] false) := by
  have C1 := Lib.hid (fun W => brBoth_no s t h W)
  clear h
  go_enter Try.func33, Try.ntmps33
  go_wp2_with fail
  refine (C1.out _).mono ?_
  rintro e w1 ⟨rfl, x1⟩
  go_wp2_with fail
  go_ret2
  exact ⟨_, rfl, Own.nil _ _ _, x1⟩
theorem rev_step {α : Type} (Y : List α) (k j : Nat) (hk : k ≤ Y.length) (hj : j < k) (y : α) (hy : Y[k - 1 - j]? = some y) : (Y.take k).reverse.take (j + 1) = (Y.take k).reverse.take j ++ [y] := by
  rw [List.take_add_one, List.getElem?_reverse (by rw [List.length_take]; omega), List.length_take, Nat.min_eq_left hk, List.getElem?_take_of_lt (by omega), hy]
  rfl
set_option maxHeartbeats 3200000 in
set_option maxRecDepth 100000 in
theorem specBet_yes (A B : Tr) (hc : A.carets = B.carets) (hB : B.carets ≤ 8) (w : World) :
    Calls Try.prog 33 #[.string (tx A), .string (tx B)] w (GivesLS w ((bet A B).map tx) true) := by
  have C1 := Lib.hid (fun W => brBoth_yes A B hc hB W)
  have C2 := Lib.hid (fun W => brChain_calls A (by omega) W)
  have C3 := Lib.hid (fun W => brChain_calls B (by omega) W)
  have CB : Hid ((A.chain.map tx).length < 1000 ∧ (B.chain.map tx).length < 1000) := by
    have h1 := chain_length A
    have h2 := chain_length B
    have h3 : A.carets * A.carets ≤ 8 * 8 := Nat.mul_le_mul (by omega) (by omega)
    have h4 : B.carets * B.carets ≤ 8 * 8 := Nat.mul_le_mul hB hB
    exact ⟨by rw [List.length_map]; omega, by rw [List.length_map]; omega⟩
  obtain ⟨k, hk⟩ : ∃ k, (B.chain.map tx).length = k + 1 := ⟨(B.chain.map tx).length - 1, by have := chain_pos B; rw [List.length_map]; omega⟩
  have EB : Hid ((bet A B).map tx = A.chain.map tx ++ ((B.chain.map tx).take k).reverse) := by
    show _ = _
    rw [List.length_map] at hk
    unfold bet
    rw [hk, List.map_append, List.map_reverse, List.map_take]; rfl
  rw [EB.out]
  generalize tx A = a at *
  generalize tx B = b at *
  generalize A.chain.map tx = X at *
  generalize B.chain.map tx = Y at *
  have HK := Lib.hid hk
  have kb : (k : Int) < 1000 := by have := CB.out.2; omega
  clear hc hB EB
  go_enter Try.func33, Try.ntmps33
  go_wp2_with fail
  refine (C1.out _).mono ?_
  rintro e w1 ⟨rfl, x1⟩
  have X1 := Lib.hid x1
  clear x1
  go_wp2_with fail
  refine (C2.out _).mono ?_
  rintro e w2 ⟨v2, rfl, o2, x2⟩
  have O2 := Lib.hid (o2.mono X1.out.size)
  have L2 := Lib.hid (fun k hk => (o2.block k hk).2)
  have X2 := Lib.hid (X1.out.trans x2)
  clear o2 x2
  go_wp2_with fail
  refine (C3.out _).mono ?_
  rintro e w3 ⟨v3, rfl, o3, x3⟩
  have O2 := Lib.hid (O2.out.ext x3)
  have L3 := Lib.hid o3.block
  have V3 := Lib.hid o3.reads
  have X3 := Lib.hid (X2.out.trans x3)
  obtain ⟨A3, c3, rfl, _, rd⟩ := o3.reads
  rw [strs_length, hk] at rd V3 ⊢
  obtain ⟨ad, rfl, _⟩ := rd (by omega)
  clear o3 x3 hk rd
  go_wp2_with fail
  have LN : Hid (v2.ownBlock ≠ some ad.block) := fun h => by have h1 := L2.out _ h; have h2 := (L3.out ad.block rfl).1; omega
  have LT : Hid (ad.block < w3.heap.size) := (L3.out ad.block rfl).2
  go_loopw [8, 6] (fun i o wr => ∃ j : Nat, j ≤ k ∧ i = .int .i64 ((k : Int) - 1 - j) ∧ Hid (Own wr w.heap.size 9 o (strs (X ++ (Y.take k).reverse.take j))) ∧ Hid (o.ownBlock ≠ some ad.block) ∧ Hid (ad.block < wr.heap.size) ∧ Hid (Reads wr (.slice (some ad) (k + 1) c3) (strs Y)) ∧ Hid (Ext w wr)) (fun i _ _ => (intOf i + 1).toNat)
  case atStart => exact ⟨0, Nat.zero_le _, by go_num, (by simpa [Hid] using O2.out), LN.out, LT.out, V3.out, X3.out⟩
  case round =>
    obtain ⟨j, hj, rfl, HO, HN, HT, HV, HX⟩ := hrel
    by_cases hlt : j < k
    · have hn : k - 1 - j < Y.length := by have := HK.out; omega
      have hy : Y[k - 1 - j]? = some Y[k - 1 - j] := List.getElem?_eq_getElem hn
      have RS := Lib.hid (rev_step Y k j (by have := HK.out; omega) hlt _ hy)
      obtain ⟨A4, c4, e4, _, rd⟩ := HV.out
      rw [strs_length] at rd e4
      obtain ⟨ad4, e5, ca⟩ := rd (by omega)
      injection e4 with e6 e7 e8
      clear e7 e8
      rw [← e6] at e5
      cases e5
      have c1 := ca (k - 1 - j) _ (strs_get Y (k - 1 - j) hn)
      have W1 : Hid ((k : Int) - 1 - j = ((k - 1 - j : Nat) : Int)) := by show _ = _; omega
      have W2 : Hid ((k : Int) - 1 - (j + 1 : Nat) = ((k - 1 - j : Nat) : Int) - 1) := by show _ = _; omega
      have ib : ((k - 1 - j : Nat) : Int) < (k : Int) + 1 := by omega
      have JL : Hid (((Y.take k).reverse.take j).length ≤ j) := List.length_take_le _ _
      generalize Y[k - 1 - j] = y at *
      generalize k - 1 - j = i at *
      have i0 : (0 : Int) ≤ i := by omega
      have O2 := HO.out.ext ((Ext.refl _).alloc (.cells #[.string y] 9))
      have RL := Lib.hid (Own.lit wr 0 9 #[.string y] (Nat.zero_le _) (by show 1 ≤ maxLen; decide)).reads
      have LL : Hid (((strs (X ++ (Y.take k).reverse.take j)).length + (strs [y]).length) * 16 ≤ 140737488355328) := by
        show _ ≤ _
        rw [strs_length, strs_length, List.length_append]
        have := CB.out
        have := JL.out
        simp only [List.length_singleton]
        omega
      have B1 := Lib.hid (HX.out.alloc (.cells #[.string y] 9)).size
      rw [W1.out]
      clear ca rd hy hn e6
      go_wp2_with (at_builtin; refine wpList_app rfl (.tmp 24) (.tmp 29) 56 rfl w.heap.size 9 (.string ⟨#[]⟩) 16 Try.underlying56 infoStr rfl (by omega) _ _ _ (strs [y]) rfl rfl O2 RL.out (strs_one _) LL.out B1.out ?_; intro v4 w4 o4 g4 q4)
      have X4 := Lib.hid ((HX.out.alloc _).grown g4 O2.lo)
      have HV4 := Lib.hid ((HV.out.ext ((Ext.refl _).alloc (.cells #[.string y] 9))).far g4 (fun m hm e => HN.out (hm.trans e.symm)))
      have HN4 : Hid (v4.ownBlock ≠ some ad.block) := by
        intro e
        rcases q4 with q | q
        · exact HN.out (q.symm.trans e)
        · rw [e] at q
          have h1 := Option.some.inj q
          have h2 := HT.out
          simp at h1
          omega
      have HT4 : Hid (ad.block < w4.heap.size) := Nat.lt_of_lt_of_le (Nat.lt_of_lt_of_le HT.out ((Ext.refl wr).alloc (.cells #[.string y] 9)).size) g4.size
      rw [strs_append, List.append_assoc, ← RS.out] at o4
      have O4 := Lib.hid o4
      clear o4 g4 q4 O2 c1
      go_wp2_with fail
      exact ⟨⟨j + 1, by omega, by rw [W2.out], O4.out, HN4.out, HT4.out, HV4.out, X4.out⟩, by simp [intOf]⟩
    · have h1 : (k : Int) - 1 - j < 0 := by omega
      have E : Hid ((Y.take k).reverse.take j = (Y.take k).reverse) := List.take_of_length_le (by rw [List.length_reverse, List.length_take]; omega)
      have h2 : ¬ (0 : Int) ≤ (k : Int) - 1 - j := by omega
      go_wp2_with fail
      go_ret2
      exact ⟨_, rfl, by have := HO.out; rw [E.out] at this; exact this, HX.out⟩
end Go.Proofs.Ytijnadjgmmednaa.N
