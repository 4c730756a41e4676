import Derived.Test.YtfjhecilkeikiaaBa
import Derived.Test.YtfjhecilkeikiaaPu
import Derived.Test.YtfjhecilkeikiaaSl
import Derived.Test.YtfjhecilkeikiaaProg
import Derived.Test.YtfjhecilkeikiaaWl
import Derived.Test.YtfjhecilkeikiaaWp
import Derived.Test.YtfjhecilkeikiaaT3
import Derived.Test.YtfjhecilkeikiaaTn
import Derived.Test.YtfjhecilkeikiaaTp
import Derived.Test.YtfjhecilkeikiaaTq
import Derived.Test.YtfjhecilkeikiaaTu
import Derived.Test.YtfjhecilkeikiaaPp
import Derived.Test.YtfjhecilkeikiaaPn
import Derived.Test.YtfjhecilkeikiaaSr
import Derived.Test.YtfjhecilkeikiaaQl
import Derived.Test.YtfjhecilkeikiaaPt
import Derived.Test.YtfjhecilkeikiaaQp
import Derived.Test.YtfjhecilkeikiaaQt
import Derived.Test.YtfjhecilkeikiaaQq
import Derived.Deep.LoopGhost
import Derived.Deep.RegionHeld3
import Derived.Deep.QuietTactic
/- The reduced pairs with so many carets, the program's: the walk. -/
namespace Go.Proofs.Ytfjhecilkeikiaa.N
open Go.RowKit
set_option linter.unusedVariables false
set_option linter.unusedSimpArgs false

theorem infoPr : (Try.prog.info? 28).map (fun i => (i.zero, i.size, i.bytes)) = some (some (.agg #[.string ⟨#[]⟩, .string ⟨#[]⟩]), 2, 32) := by kernel_rfl
set_option maxHeartbeats 12800000 in
set_option maxRecDepth 100000 in
theorem reducedPairs_calls (n : Nat) (hn : n ≤ 4) (w : World) : Calls Try.prog 40 #[.int .i64 n] w fun e w' => ∃ v, e = .returned v ∧ w'.ownsRow w.heap.size 28 2 v (prs n).length (psP (prs n)) ∧ Ext w w' := by
  have CT := Lib.hid (trees_calls n hn)
  have LA := TL_le n hn
  have CA : Hid (∀ T ∈ TL n, T.carets = n) := TL_carets n
  have EP : Hid (prs n = srtP (redA (TL n) (TL n))) := rfl
  have RL := Lib.hid (redA_length (TL n) (TL n))
  have RM : Hid (∀ p ∈ redA (TL n) (TL n), p.1.carets ≤ 1000 ∧ p.2.carets ≤ 1000) := fun p hp => by
    obtain ⟨h1, h2, _⟩ := redA_mem hp
    rw [TL_carets n _ h1, TL_carets n _ h2]; omega
  generalize TL n = A at *
  go_enter Try.func40, Try.ntmps40
  go_wp2_with fail
  refine (CT.out _).mono ?_
  rintro e w1 ⟨v1, rfl, o1, x1⟩
  obtain ⟨A1, c1, rfl⟩ := o1.txs
  have R1 := Lib.hid o1.reads
  have X1 := Lib.hid x1
  clear o1 x1
  go_wp2_with fail
  go_loopw [16, 3] (fun i v wr => ∃ i' : Nat, i' ≤ A.length ∧ i = .int .i64 i' ∧ Hid (wr.ownsRow w1.heap.size 28 2 v (redA (A.take i') A).length (psP (redA (A.take i') A))) ∧ Hid (Ext w1 wr)) (fun i _ _ => A.length - (intOf i).toNat)
  case atStart => exact ⟨0, Nat.zero_le _, rfl, World.ownsRow_nil _ _ _ _, Ext.refl _⟩
  case round =>
    obtain ⟨i, hi, rfl, HO, HX⟩ := hrel
    generalize wr = wi at *
    by_cases hil : i < A.length
    · have h2 : (0 : Int) ≤ i := by omega
      have h3 : (i : Int) < A.length := by omega
      have hg : A[i]? = some A[i] := List.getElem?_eq_getElem hil
      obtain ⟨ad, rfl, ca⟩ := (R1.out.ext HX.out).txs_cell hg
      have RT := Lib.hid (redA_take A A i _ hg)
      have RJ : Hid ((redA (A.take i) A).length ≤ 196) := Nat.le_trans (redA_length _ _) (Nat.le_trans (Nat.mul_le_mul (show (A.take i).length ≤ 14 by rw [List.length_take]; omega) LA) (by decide))
      have TA := CA.out _ (List.getElem_mem hil)
      generalize A[i] = ta at *
      generalize redA (A.take i) A = P at *
      go_wp2_with fail
      go_loopw [22, 3] (fun i v wr => ∃ j : Nat, j ≤ A.length ∧ i = .int .i64 j ∧ Hid (wr.ownsRow w1.heap.size 28 2 v (P ++ redR ta (A.take j)).length (psP (P ++ redR ta (A.take j)))) ∧ Hid (Ext w1 wr)) (fun i _ _ => A.length - (intOf i).toNat)
      case atStart => exact ⟨0, Nat.zero_le _, rfl, (by rw [List.take_zero, show redR ta [] = [] from rfl, List.append_nil]; exact HO.out), HX.out⟩
      case round =>
        obtain ⟨j, hj, rfl, HO, HX⟩ := hrel
        generalize wr = wj at *
        by_cases hjl : j < A.length
        · have h4 : (0 : Int) ≤ j := by omega
          have h5 : (j : Int) < A.length := by omega
          have hg2 : A[j]? = some A[j] := List.getElem?_eq_getElem hjl
          obtain ⟨ad2, e2, cb⟩ := (R1.out.ext HX.out).txs_cell hg2
          injection e2 with e2
          subst e2
          have RM2 := Lib.hid (redR_take ta A j _ hg2)
          have TB := CA.out _ (List.getElem_mem hjl)
          have RN : Hid ((P ++ redR ta (A.take j)).length ≤ 210) := by
            show _ ≤ _
            rw [List.length_append]
            have := redR_length ta (A.take j)
            rw [List.length_take] at this
            have := RJ.out
            omega
          generalize A[j] = tb at *
          obtain ⟨PJ, hPJ⟩ : ∃ PJ, P ++ redR ta (A.take j) = PJ := ⟨_, rfl⟩
          rw [hPJ] at HO RN
          have HPJ := Lib.hid hPJ
          clear hPJ
          have CP := Lib.hid (pairOf_yes ta tb (by omega) (by omega))
          have CB := Lib.hid (fun pa pb W ra rb => both_calls ta tb (by omega) (by omega) pa pb W ra rb)
          generalize hxa : tx ta = xa at *
          generalize hxb : tx tb = xb at *
          go_wp2_with fail
          refine (CP.out _).mono ?_
          rintro e w2 ⟨pa, pb, rfl, ra, rb, x2⟩
          have b9 := x2.at (heap_alloc_new wj (.cells #[.string xa, .string xb] 28))
          have Y2 := ((Ext.refl wj).alloc (.cells #[.string xa, .string xb] 28)).trans x2
          have ra := ra.ext ((Ext.refl w2).alloc (.cells #[.pointer pa, .pointer pb] 48))
          have rb := rb.ext ((Ext.refl w2).alloc (.cells #[.pointer pa, .pointer pb] 48))
          have C2 := Lib.hid (CB.out pa pb _ ra rb)
          clear ra rb x2
          go_wp2_with fail
          refine C2.out.mono ?_
          rintro e w3 ⟨v3, rfl, o3, x3⟩
          obtain ⟨A3, c3, rfl, _, _⟩ := o3.reads
          have Y3 := Lib.hid (Y2.trans (((Ext.refl w2).alloc (.cells #[.pointer pa, .pointer pb] 48)).trans x3))
          obtain ⟨d0, d1⟩ := cells_of ((((Ext.refl w2).alloc (.cells #[.pointer pa, .pointer pb] 48)).trans x3).at b9)
          have NL : (nats (bothT ta tb)).length = (bothT ta tb).length := by simp [nats, ints]
          have BL : (bothT ta tb).length ≤ 4 := Nat.le_trans (both_length ta tb) (by omega)
          rw [NL]
          clear o3 x3 b9 Y2
          cases hb : bothT ta tb with
          | nil =>
            rw [hb] at RM2
            have EM : Hid (psP PJ ++ [.string xa, .string xb] = psP (P ++ redR ta (A.take (j + 1)))) := by
              show _ = _
              rw [RM2.out, ← List.append_assoc, HPJ.out, psP_append, ← hxa, ← hxb]; rfl
            have EN : Hid (PJ.length + 1 = (P ++ redR ta (A.take (j + 1))).length) := by
              show _ = _
              rw [RM2.out, ← List.append_assoc, HPJ.out, List.length_append]; rfl
            have O3 := row_ext HO.out (Y3.out.alloc (.cells #[.string xa, .string xb] 28))
            have X3 := Lib.hid ((HX.out.trans Y3.out).alloc (.cells #[.string xa, .string xb] 28))
            have pl := RN.out
            go_wp2_with (at_builtin; refine wpList_appK rfl (.tmp 38) (.tmp 40) 38 rfl w1.heap.size 28 _ 2 32 Try.underlying38 infoPr rfl (by omega) _ PJ.length 1 1 _ _ [.string xa, .string xb] rfl rfl O3 rfl (new_cells w3 #[.string xa, .string xb] _) (by simp [Value.oneCell']) (by unfold maxLen; omega) (by omega) X3.out.size ?_; intro v4 w4 o4 g4 _)
            have X4 := Lib.hid (X3.out.grown g4 (fun k hk => (World.ownsRow.lt O3 k hk).1))
            rw [EM.out, EN.out] at o4
            have O4 := Lib.hid o4
            clear o4 g4 O3
            go_wp2_with fail
            exact ⟨⟨j + 1, by omega, by go_num, O4.out, X4.out⟩, by simp [intOf]; omega⟩
          | cons z zs =>
            rw [hb] at RM2
            have ER : Hid (PJ = P ++ redR ta (A.take (j + 1))) := by
              show _ = _
              rw [RM2.out, ← List.append_assoc, HPJ.out]; simp
            have X4 := Lib.hid (HX.out.trans Y3.out)
            have O4 := row_ext HO.out Y3.out
            rw [ER.out] at O4
            have O4 := Lib.hid O4
            have zl : ((zs.length : Int) + 1 == 0) = false := by simp; omega
            rw [List.length_cons]
            go_wp2_with fail
            exact ⟨⟨j + 1, by omega, by go_num, O4.out, X4.out⟩, by simp [intOf]; omega⟩
        · have h4 : (A.length : Int) ≤ j := by omega
          obtain rfl : j = A.length := by omega
          have O5 := HO.out
          rw [List.take_length, ← RT.out] at O5
          have O5 := Lib.hid O5
          go_wp2_with fail
          exact ⟨⟨i + 1, by omega, by go_num, O5.out, HX.out⟩, by simp [intOf]; omega⟩
    · have h2 : (A.length : Int) ≤ i := by omega
      obtain rfl : i = A.length := by omega
      have O5 := HO.out
      rw [List.take_length] at O5
      have RL2 : (redA A A).length ≤ 196 := Nat.le_trans RL.out (Nat.le_trans (Nat.mul_le_mul LA LA) (by decide))
      have SO := Lib.hid (sortPairs_calls wi (redA A A) w1.heap.size _ (by omega) RM.out O5)
      have LS : Hid ((prs n).length = (redA A A).length) := by show _ = _; rw [EP.out]; exact (srtP_perm _).length_eq
      have O5 := Lib.hid O5
      go_wp2_with fail
      refine SO.out.mono ?_
      rintro e w2 ⟨rfl, o2, g2⟩
      have X2 := Lib.hid (X1.out.trans (HX.out.grown g2 (fun k hk => (World.ownsRow.lt O5.out k hk).1)))
      have O2 := Lib.hid (row_mono o2 X1.out.size)
      go_wp2_with fail
      go_ret
      exact ⟨_, rfl, (by rw [LS.out, EP.out]; exact O2.out), X2.out⟩
end Go.Proofs.Ytfjhecilkeikiaa.N
