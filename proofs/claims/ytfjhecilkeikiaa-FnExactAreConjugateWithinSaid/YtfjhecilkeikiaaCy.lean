import Derived.Test.YtfjhecilkeikiaaBa
import Derived.Test.YtfjhecilkeikiaaPu
import Derived.Test.YtfjhecilkeikiaaSl
import Derived.Test.YtfjhecilkeikiaaProg
import Derived.Test.YtfjhecilkeikiaaWl
import Derived.Test.YtfjhecilkeikiaaWt
import Derived.Test.YtfjhecilkeikiaaPp
import Derived.Test.YtfjhecilkeikiaaPh
import Derived.Test.YtfjhecilkeikiaaTp
import Derived.Test.YtfjhecilkeikiaaTk
import Derived.Test.YtfjhecilkeikiaaCl
import Derived.Test.YtfjhecilkeikiaaAc
import Derived.Test.YtfjhecilkeikiaaAw
import Derived.Test.YtfjhecilkeikiaaCz
import Derived.Deep.LoopGhost
import Derived.Deep.QuietTactic
import Derived.BigQuiet
import Derived.Deep.RegionHeld3
import Derived.Deep.OwnRows
import Derived.Deep.CutRange
/- The reduced words, the reference's. -/
namespace Go.Proofs.Ytfjhecilkeikiaa.N
open Go.RowKit
set_option linter.unusedVariables false
set_option linter.unusedSimpArgs false

theorem lts_at {k : Nat} (h : k < 4) : ∃ x : Int, lts[k]? = some x ∧ x ≠ 0 ∧ -2 ≤ x ∧ x ≤ 2 := by
  rcases k with _ | _ | _ | _ | k
  · exact ⟨1, rfl, by decide, by decide⟩
  · exact ⟨-1, rfl, by decide, by decide⟩
  · exact ⟨2, rfl, by decide, by decide⟩
  · exact ⟨-2, rfl, by decide, by decide⟩
  · omega
theorem lts_bound {x : Int} (h : x ∈ lts) : x ≠ 0 ∧ -2 ≤ x ∧ x ≤ 2 := by
  unfold lts at h; simp at h; omega
theorem lit_readsZ (W : World) (x : Int) : Reads (W.alloc (.cells #[.int .i64 x] 3)) (.slice (some ⟨W.heap.size, 0, none⟩) 1 1) [.int .i64 x] := (Own.lit W 0 3 #[.int .i64 x] (Nat.zero_le _) (by show 1 ≤ maxLen; decide)).reads
set_option maxHeartbeats 12800000 in
set_option maxRecDepth 100000 in
theorem cjWords_calls (n : Nat) (hn : n ≤ 4) (w : World) :
    Calls Try.prog 60 #[.int .i64 n] w fun e w' => ∃ v, e = .returned v ∧ OwnR w' w.heap.size v (redWd n) ∧ Ext w w' := by
  have X1 := Lib.hid ((Ext.refl w).alloc (.cells #[.slice none 0 0] 25))
  have R1 : Hid (OwnR (w.alloc (.cells #[.slice none 0 0] 25)) w.heap.size (.slice (some ⟨w.heap.size, 0, none⟩) 1 1) (redWd 0)) := by
    refine ⟨[.slice none 0 0], Own.lit w w.heap.size 25 #[.slice none 0 0] (Nat.le_refl _) (by show 1 ≤ maxLen; decide), rfl, (by intro u hu; simp at hu; subst hu; rfl), fun r xs e => ?_⟩
    have : r = 0 ∧ xs = [] := by
      cases r with
      | zero => simp [redWd] at e; exact ⟨rfl, e⟩
      | succ r => simp [redWd] at e
    obtain ⟨rfl, rfl⟩ := this
    exact ⟨_, rfl, Own.nil _ _ 3⟩
  have hn' : (n : Int) ≤ 4 := by omega
  go_enter Try.func60, Try.ntmps60
  go_wp2_with fail
  generalize w.alloc (.cells #[.slice none 0 0] 25) = W at *
  go_loopw [4, 3] (fun i v wr => ∃ k : Nat, k ≤ n ∧ i = .int .i64 k ∧ Hid (OwnR wr w.heap.size v (redWd k)) ∧ Hid (Ext w wr)) (fun i _ _ => n - (intOf i).toNat)
  case atStart => exact ⟨0, Nat.zero_le _, rfl, R1.out, X1.out⟩
  case round =>
    obtain ⟨k, hk, rfl, HR, HX⟩ := hrel
    generalize wr = wk at *
    by_cases hlt : k < n
    · have h1 : (k : Int) < n := by omega
      have LE : Hid ((redWd k).length ≤ 256) := Nat.le_trans (redWd_length k) (Nat.pow_le_pow_right (by omega) (show k ≤ 4 by omega))
      have WD : Hid (∀ w ∈ redWd k, w.length ≤ 4 ∧ ∀ x ∈ w, x ∈ lts) := fun w hw => ⟨by have := (redWd_words hw).1; omega, (redWd_words hw).2⟩
      have EA : Hid (extsL (redWd k) (redWd k).length = redWd (k + 1)) := extsL_all k
      obtain ⟨A1, c1, rfl, _, rd⟩ := HR.out.reads.open
      have RD := Lib.hid rd
      have RM := Lib.hid HR.out
      clear rd
      generalize redWd k = L at *
      have LE' := LE.out
      go_wp2_with fail
      go_loopw [18, 5] (fun i v wj => ∃ (j : Nat), j ≤ L.length ∧ i = .int .i64 j ∧ Hid (OwnR wj wk.heap.size v (extsL L j)) ∧ Hid (Ext wk wj)) (fun i _ _ => L.length - (intOf i).toNat)
      case atStart => exact ⟨0, Nat.zero_le _, rfl, OwnR.nil _ _, Ext.refl _⟩
      case round =>
        obtain ⟨j, hj, rfl, HO, HY⟩ := hrel
        generalize wr = wj at *
        by_cases hjl : j < L.length
        · have h0 : (0 : Int) ≤ j := by omega
          have h2 : (j : Int) < L.length := by omega
          have hw : L[j]? = some L[j] := List.getElem?_eq_getElem hjl
          obtain ⟨ad, B, d, rfl, cj, rw1⟩ := RD.out j _ hw
          have cj := HY.out.cell cj
          have WJ := WD.out _ (List.mem_of_getElem? hw)
          have ES := Lib.hid (extsL_step hw)
          have RW := Lib.hid rw1
          generalize L[j] = ws at *
          have WL := WJ.1
          have WM := Lib.hid WJ.2
          clear WJ hw rw1
          go_wp2_with fail
          refine (lnLetters_calls _).mono ?_
          rintro e w2 ⟨c2, rfl, r2, x2⟩
          have R2 := Lib.hid (r2.mono HY.out.size)
          have X2 := Lib.hid (HY.out.trans x2)
          have O2 := Lib.hid (HO.out.ext x2)
          have BB := Lib.hid x2.size
          clear r2 x2 cj
          go_wp2_with fail
          go_loopw [24, 5] (fun i v wi => ∃ (q : Nat), q ≤ 4 ∧ i = .int .i64 q ∧ Hid (OwnR wi wk.heap.size v (extsL L j ++ exts ws q)) ∧ Hid (Ext wk wi) ∧ Hid (Own wi wk.heap.size 3 (.slice (some ⟨wj.heap.size, 0, none⟩) 4 c2) (ints lts))) (fun i _ _ => 4 - (intOf i).toNat)
          case atStart => exact ⟨0, by omega, rfl, (by rw [show exts ws 0 = [] from rfl, List.append_nil]; exact O2.out), X2.out, R2.out⟩
          case round =>
            obtain ⟨q, hq, rfl, HO2, HY2, HZ2⟩ := hrel
            have HL2 : Hid ((extsL L j ++ exts ws q).length ≤ 4 * 256 + 4) := by show _ ≤ _; have := extsL_length L j; have := exts_length ws q; have := LE.out; rw [List.length_append]; omega
            generalize wr = wi at *
            by_cases hq4 : q < 4
            · obtain ⟨x, hx, hx0, hx1, hx2⟩ := lts_at hq4
              have q0 : (0 : Int) ≤ q := by omega
              have q4 : (q : Int) < 4 := by omega
              obtain ⟨A3, c3, e3, _, rd3⟩ := HZ2.out.reads
              injection e3 with e4 e5 e6
              subst e4 e6
              obtain ⟨ad3, e7, ca3⟩ := rd3 (by simp [ints, lts])
              injection e7 with e7
              subst e7
              have cx := ca3 q _ (by rw [show (ints lts)[q]? = (lts[q]?).map fun x => Value.int .i64 x from by simp [ints], hx]; rfl)
              rw [add_plain] at cx
              have ST := Lib.hid (exts_step (w := ws) hx)
              have RW3 := Lib.hid (RW.out.ext HY2.out)
              have RO : Hid (Reads wi (.slice B ws.length d) (ints ws)) := RW3.out
              have LW : Hid (ws.length ≤ 4) := WL
              clear ca3 rd3 e5
              cases hws : ws.getLast? with
              | none =>
                obtain rfl : ws = [] := List.getLast?_eq_none_iff.1 hws
                have hok : okL ([] : List Int) x = true := rfl
                have ST2 : Hid (exts ([] : List Int) (q + 1) = exts ([] : List Int) q ++ [([] : List Int) ++ [x]]) := by show _ = _; rw [ST.out, hok]; simp
                go_wp2_with fail
                refine (l1OwnZ_calls ([] : List Int) (by have := LW.out; omega) _ _ RO.out).mono ?_
                rintro e w5 ⟨v5, rfl, o5, x5⟩
                have O5 := o5.ext ((Ext.refl w5).alloc (.cells #[.int .i64 x] 3))
                have R5 := lit_readsZ w5 x
                have L5 : Hid (((ints ([] : List Int)).length + (ints [x]).length) * 8 ≤ 140737488355328) := by show _ ≤ _; rw [ints_length, ints_length]; simp only [List.length_singleton]; have := LW.out; omega
                have B5 := Lib.hid (x5.alloc (.cells #[.int .i64 x] 3)).size
                have E5 : Hid (ints ([] : List Int) ++ ints [x] = ints (([] : List Int) ++ [x])) := by simp [Hid, ints]
                have Z5 := Lib.hid (x5.alloc (.cells #[.int .i64 x] 3))
                clear o5 x5
                go_wp2_with (first
                  | (at_builtin; refine wpList_app rfl (.tmp 44) (.tmp 46) 25 rfl wi.heap.size 3 (.int .i64 0) 8 Try.underlying25 infoInt rfl (by omega) _ _ _ (ints [x]) rfl rfl O5 R5 (ints_one _) L5.out B5.out ?_; intro v6 w6 o6 g6 _; have X6 := Z5.out.grown g6 O5.lo; rw [E5.out] at o6; obtain ⟨A6, n6, c6, rfl⟩ : ∃ A n c, v6 = .slice A n c := (let ⟨A, c, e, _⟩ := o6.reads; ⟨A, _, c, e⟩); have hone : (Value.slice A6 n6 c6).oneCell' = true := rfl; have XA6 : Ext wi (w6.alloc (.cells #[.slice A6 n6 c6] 25)) := X6.alloc _; obtain ⟨us, oa, ol, o1, orr⟩ := HO2.out.ext XA6; have LT8 := (HZ2.out.ext XA6); have hu := (o6.ext ((Ext.refl w6).alloc (.cells #[.slice A6 n6 c6] 25))).mono (HY2.out.size); have R7 := (Own.lit w6 0 25 #[.slice A6 n6 c6] (Nat.zero_le _) (by show 1 ≤ maxLen; decide)).reads; have L7 : Hid ((us.length + ([.slice A6 n6 c6] : List Value).length) * 24 ≤ 140737488355328) := (by show _ ≤ _; rw [ol]; simp only [List.length_singleton]; have := HL2.out; omega); have B7 := Lib.hid (HY2.out.trans XA6).size; clear O5 R5 g6)
                  | (at_builtin; refine wpList_app rfl (.tmp 42) (.tmp 48) 78 rfl wk.heap.size 25 (.slice none 0 0) 24 Try.underlying78 infoRow rfl (by omega) _ _ _ [.slice A6 n6 c6] rfl rfl oa R7 (vals_one _ hone) L7.out B7.out ?_; intro v8 w8 o8 g8 _))
                have O8 := Lib.hid (OwnR.snoc oa ol o1 orr hu o8 g8 hone)
                have X8 := Lib.hid ((HY2.out.trans XA6).grown g8 oa.lo)
                have LT9 := Lib.hid (LT8.apart oa (by decide) g8)
                clear o6 X6 XA6 oa ol o1 orr LT8 hu R7 o8 g8
                go_wp2_with fail
                exact ⟨⟨_, _, .int .i64 ((q + 1 : Nat) : Int), ⟨q + 1, by omega, rfl, (by rw [ST2.out, ← List.append_assoc]; exact O8.out), X8.out, LT9.out⟩, rfl, rfl, by go_num⟩, by simp [intOf]; omega⟩
              | some y =>
                obtain ⟨u, rfl⟩ : ∃ u, ws = u ++ [y] := ⟨ws.dropLast, by
                  have h0 : ws ≠ [] := by intro h; rw [h] at hws; simp at hws
                  rw [List.getLast?_eq_some_getLast h0] at hws
                  injection hws with hws
                  rw [← hws, List.dropLast_concat_getLast]⟩
                obtain ⟨p, hp⟩ : ∃ p, u.length = p := ⟨_, rfl⟩
                have hl : (u ++ [y]).length = p + 1 := by simp [hp]
                have hk : okL (u ++ [y]) x = (y != -x) := by
                  unfold okL
                  rw [List.getLast?_append]
                  rfl
                obtain ⟨A5, c5, e5, _, rd5⟩ := RO.out
                rw [ints_length] at e5 rd5
                injection e5 with e6 e7 e8
                subst e6 e8
                obtain ⟨ad5, rfl, ca5⟩ := rd5 (by omega)
                have cy := ca5 p (.int .i64 y) (by simp [ints, ← hp])
                have p0 : (0 : Int) ≤ p := by omega
                have p4 : p ≤ 4 := by omega
                have yb := lts_bound (WM.out y (by simp))
                have RO := Lib.hid RO.out
                rw [hl] at RO
                have RO := RO.out
                rw [hl]
                clear e7 ca5 rd5 hws
                cases hok : (y != -x) with
                | false =>
                  rw [hok] at hk
                  have ST2 : Hid (exts (u ++ [y]) (q + 1) = exts (u ++ [y]) q) := by show _ = _; rw [ST.out, hk]; simp
                  go_wp2_with fail
                  exact ⟨⟨q + 1, by omega, by go_num, by rw [ST2.out]; exact HO2.out, HY2.out, HZ2.out⟩, by simp [intOf]; omega⟩
                | true =>
                  rw [hok] at hk
                  have ST2 : Hid (exts (u ++ [y]) (q + 1) = exts (u ++ [y]) q ++ [(u ++ [y]) ++ [x]]) := by show _ = _; rw [ST.out, hk]; simp
                  go_wp2_with fail
                  rw [← hl] at RO ⊢
                  refine (l1OwnZ_calls (u ++ [y]) (by have := LW.out; omega) _ _ RO).mono ?_
                  rintro e w5 ⟨v5, rfl, o5, x5⟩
                  have O5 := o5.ext ((Ext.refl w5).alloc (.cells #[.int .i64 x] 3))
                  have R5 := lit_readsZ w5 x
                  have L5 : Hid (((ints (u ++ [y])).length + (ints [x]).length) * 8 ≤ 140737488355328) := by show _ ≤ _; rw [ints_length, ints_length]; simp only [List.length_singleton]; have := LW.out; omega
                  have B5 := Lib.hid (x5.alloc (.cells #[.int .i64 x] 3)).size
                  have E5 : Hid (ints (u ++ [y]) ++ ints [x] = ints ((u ++ [y]) ++ [x])) := by simp [Hid, ints]
                  have Z5 := Lib.hid (x5.alloc (.cells #[.int .i64 x] 3))
                  clear o5 x5
                  go_wp2_with (first
                    | (at_builtin; refine wpList_app rfl (.tmp 44) (.tmp 46) 25 rfl wi.heap.size 3 (.int .i64 0) 8 Try.underlying25 infoInt rfl (by omega) _ _ _ (ints [x]) rfl rfl O5 R5 (ints_one _) L5.out B5.out ?_; intro v6 w6 o6 g6 _; have X6 := Z5.out.grown g6 O5.lo; rw [E5.out] at o6; obtain ⟨A6, n6, c6, rfl⟩ : ∃ A n c, v6 = .slice A n c := (let ⟨A, c, e, _⟩ := o6.reads; ⟨A, _, c, e⟩); have hone : (Value.slice A6 n6 c6).oneCell' = true := rfl; have XA6 : Ext wi (w6.alloc (.cells #[.slice A6 n6 c6] 25)) := X6.alloc _; obtain ⟨us, oa, ol, o1, orr⟩ := HO2.out.ext XA6; have LT8 := (HZ2.out.ext XA6); have hu := (o6.ext ((Ext.refl w6).alloc (.cells #[.slice A6 n6 c6] 25))).mono (HY2.out.size); have R7 := (Own.lit w6 0 25 #[.slice A6 n6 c6] (Nat.zero_le _) (by show 1 ≤ maxLen; decide)).reads; have L7 : Hid ((us.length + ([.slice A6 n6 c6] : List Value).length) * 24 ≤ 140737488355328) := (by show _ ≤ _; rw [ol]; simp only [List.length_singleton]; have := HL2.out; omega); have B7 := Lib.hid (HY2.out.trans XA6).size; clear O5 R5 g6)
                    | (at_builtin; refine wpList_app rfl (.tmp 42) (.tmp 48) 78 rfl wk.heap.size 25 (.slice none 0 0) 24 Try.underlying78 infoRow rfl (by omega) _ _ _ [.slice A6 n6 c6] rfl rfl oa R7 (vals_one _ hone) L7.out B7.out ?_; intro v8 w8 o8 g8 _))
                  have O8 := Lib.hid (OwnR.snoc oa ol o1 orr hu o8 g8 hone)
                  have X8 := Lib.hid ((HY2.out.trans XA6).grown g8 oa.lo)
                  have LT9 := Lib.hid (LT8.apart oa (by decide) g8)
                  clear o6 X6 XA6 oa ol o1 orr LT8 hu R7 o8 g8
                  go_wp2_with fail
                  exact ⟨⟨q + 1, by omega, by go_num, by rw [ST2.out, ← List.append_assoc]; exact O8.out, X8.out, LT9.out⟩, by simp [intOf]; omega⟩
            · have q4 : ¬ (q : Int) < 4 := by omega
              obtain rfl : q = 4 := by omega
              have EE := HO2.out
              rw [← ES.out] at EE
              have EE := Lib.hid EE
              go_wp2_with fail
              exact ⟨⟨j + 1, by omega, by go_num, EE.out, HY2.out⟩, by simp [intOf]; omega⟩
        · have h2 : (L.length : Int) ≤ j := by omega
          obtain rfl : j = L.length := by omega
          have OM := HO.out.mono HX.out.size
          rw [EA.out] at OM
          have OM := Lib.hid OM
          have X9 := Lib.hid (HX.out.trans HY.out)
          go_wp2_with fail
          exact ⟨⟨k + 1, by omega, by go_num, OM.out, X9.out⟩, by simp [intOf]; omega⟩
    · have h1 : (n : Int) ≤ k := by omega
      obtain rfl : k = n := by omega
      go_wp2_with fail
      go_ret
      exact ⟨_, rfl, HR.out, HX.out⟩
end Go.Proofs.Ytfjhecilkeikiaa.N
