import Derived.Sort.OwnSorted
import Derived.Test.YtdcipaaclpedhaaGreatXr2
import Derived.Test.YtdcipaaclpedhaaGreatXr9
/- A part of the proof: lemmas that later parts use. -/
set_option linter.unusedVariables false
set_option linter.unusedSimpArgs false
namespace Go.Proofs.YtdcipaaclpedhaaGreat.N
open Go.RowKit
theorem le_bl (x y : List UInt8) : decide (x ≤ y) = !Op.bytesLess y x := by
  rw [bytesLess_eq]
  by_cases h : y < x
  · have h2 : ¬ x ≤ y := List.not_le.2 h
    simp [h, h2]
  · have h2 : x ≤ y := List.not_lt.1 h
    simp [h, h2]
theorem mergeSort_srt (l : List ByteArray) : ((l.map ByteArray.toList).mergeSort fun x y => decide (x ≤ y)).map S = srt l := by
  have tr : ∀ a b c : List UInt8, decide (a ≤ b) = true → decide (b ≤ c) = true → decide (a ≤ c) = true := by
    intro a b c h1 h2
    rw [le_bl] at *
    have h1 : blt (S b) (S a) = false := by unfold blt; simpa [S, ByteArray.toList_eq] using h1
    have h2 : blt (S c) (S b) = false := by unfold blt; simpa [S, ByteArray.toList_eq] using h2
    have h3 := blt_ntrans h2 h1
    unfold blt at h3
    simpa [S, ByteArray.toList_eq] using h3
  have tot : ∀ a b : List UInt8, (decide (a ≤ b) || decide (b ≤ a)) = true := by
    intro a b
    rw [le_bl, le_bl]
    cases h1 : Op.bytesLess b a with
    | false => rfl
    | true =>
      cases h2 : Op.bytesLess a b with
      | false => rfl
      | true => have := bl_trans _ _ _ h1 h2; rw [bl_irrefl] at this; cases this
  refine srt_unique _ _ ?_ ?_ (srt_srt l)
  · refine List.Perm.trans ?_ (srt_perm l).symm
    refine ((List.mergeSort_perm _ _).map S).trans ?_
    rw [List.map_map, show S ∘ ByteArray.toList = id from funext fun b => (S_of b).symm, List.map_id]
  · unfold Srt
    rw [List.pairwise_map]
    refine (List.pairwise_mergeSort tr tot _).imp ?_
    intro a b h
    rw [le_bl] at h
    unfold blt
    simpa [S, ByteArray.toList_eq] using h
theorem sortStr_calls (w : World) (l : List ByteArray) (base : Nat) (v : Value) (h0 : 0 < l.length) (hl : l.length ≤ 1000000) (ho : Own w base 9 v (strs l)) :
    Calls Tryz.prog 91 #[v] w fun e w' => e = .returned (.tuple #[]) ∧ Own w' base 9 v (strs (srt l)) ∧ w.grownBy w' v.ownBlock := by
  have e1 : strs l = (l.map ByteArray.toList).map encStr := by
    rw [List.map_map]
    refine List.map_congr_left fun b _ => ?_
    show Value.string b = Value.string ⟨b.toList.toArray⟩
    rw [show (⟨b.toList.toArray⟩ : ByteArray) = b from (S_of b).symm]
  have e2 : ∀ l : List (List UInt8), l.map encStr = strs (l.map S) := fun l => by rw [strs, List.map_map]; rfl
  have ho2 := ho
  unfold Own at ho2
  rcases ho2.2 with ⟨rfl, hz⟩ | ⟨g, cap, cur, rfl, hbase, hb, h1, h2, h3, h4⟩
  · rw [strs_length] at hz; omega
  have hL : (strs l).length = (l.map ByteArray.toList).length := by rw [strs_length, List.length_map]
  rw [hL] at h1 h4 ⊢
  have C := AnyM.slices_Sort_string sortStr g 0 cap (l.map ByteArray.toList) w (holds_of_block hb (by rw [← e1]; simpa using h4)) (Array.getElem?_eq_some_iff.1 hb).1 (by rw [List.length_map]; omega)
  refine C.mono ?_
  rintro e w' ⟨rfl, n, os, rfl⟩
  refine ⟨rfl, ?_, Go.grownBy_sorted _⟩
  have O := ownsRow_sorted (n := n) (os := os) (ts := (l.map ByteArray.toList).mergeSort fun x y => decide (x ≤ y)) (ss := l.map ByteArray.toList) (by simp) hbase hb h1 h2 h3
  rw [e2, mergeSort_srt] at O
  unfold Own
  rw [strs_length, srt_length]
  rw [List.length_map] at O ⊢
  exact O
theorem Own.apart2 {w w' : World} {base base' : Nat} {e e' : TypeId} {v v2 : Value} {xs ys : List Value} (h : Own w base e v xs) (h2 : Own w base' e' v2 ys) (he : e ≠ e') (hg : w.grownBy w' v2.ownBlock) : Own w' base e v xs :=
  h.far hg fun k hk hv => by
    obtain ⟨cs, fr, h3⟩ := h.typed k hv
    obtain ⟨cs2, fr2, h4⟩ := h2.typed k hk
    rw [h3] at h4
    injection h4 with h4
    injection h4 with _ h5
    exact he h5
def OwnS (w : World) (base : Nat) (v : Value) (xss : List (List Tr)) : Prop := ∃ us, Own w base 78 v us ∧ us.length = xss.length ∧ (∀ u ∈ us, u.oneCell' = true) ∧ ∀ (r : Nat) (xs : List Tr), xss[r]? = some xs → ∃ u, us[r]? = some u ∧ Own w base 9 u (txs xs)
theorem OwnS.ext {w w' : World} {base : Nat} {v : Value} {xss : List (List Tr)} (h : OwnS w base v xss) (hx : Ext w w') : OwnS w' base v xss :=
  let ⟨us, a, l, o, b⟩ := h; ⟨us, a.ext hx, l, o, fun r xs e => let ⟨u, c, d⟩ := b r xs e; ⟨u, c, d.ext hx⟩⟩
theorem OwnS.open {w : World} {base : Nat} {v : Value} {xss : List (List Tr)} (h : OwnS w base v xss) : ∃ A c, v = .slice A xss.length c ∧
    ∀ (r : Nat) (xs : List Tr), xss[r]? = some xs → ∃ ad B d, A = some ad ∧ w.cell? (ad.add r) = some (.slice B xs.length d) ∧ Own w base 9 (.slice B xs.length d) (txs xs) := by
  obtain ⟨us, ho, l, _, b⟩ := h
  obtain ⟨A, c, rfl, _, h1⟩ := ho.reads
  refine ⟨A, c, by rw [l], fun r xs e => ?_⟩
  obtain ⟨u, hu, k⟩ := b r xs e
  obtain ⟨ad, rfl, hc⟩ := h1 (by have := (List.getElem?_eq_some_iff.1 hu).1; omega)
  have hcu := hc r u hu
  obtain ⟨B, d, rfl, _, _⟩ := k.reads
  rw [txs_length] at *
  exact ⟨ad, B, d, rfl, hcu, k⟩
theorem vals_one2 (u : Value) (h : u.oneCell' = true) : ∀ x ∈ [u], x.oneCell' = true := by simpa using h
theorem OwnS.snoc {w w' : World} {base : Nat} {v v' u : Value} {us : List Value} {xss : List (List Tr)} {xs : List Tr}
    (ho : Own w base 78 v us) (hl : us.length = xss.length) (h1 : ∀ u ∈ us, u.oneCell' = true) (hr : ∀ (r : Nat) (xs : List Tr), xss[r]? = some xs → ∃ u, us[r]? = some u ∧ Own w base 9 u (txs xs))
    (hu : Own w base 9 u (txs xs)) (o' : Own w' base 78 v' (us ++ [u])) (hg : w.grownBy w' v.ownBlock) (hu1 : u.oneCell' = true) : OwnS w' base v' (xss ++ [xs]) := by
  refine ⟨us ++ [u], o', by simp [hl], fun x hx => by rcases List.mem_append.1 hx with h | h; exact h1 x h; simp at h; rw [h]; exact hu1, fun r ys e => ?_⟩
  rw [List.getElem?_append] at e
  split at e
  · rename_i h
    obtain ⟨x, hx, hy⟩ := hr r ys e
    exact ⟨x, by rw [List.getElem?_append_left (by omega)]; exact hx, hy.apart2 ho (by decide) hg⟩
  · rename_i h
    have : r = xss.length := by have := (List.getElem?_eq_some_iff.1 e).1; simp at this; omega
    subst this
    have e : xs = ys := by simpa using e
    subst e
    exact ⟨u, by rw [← hl, List.getElem?_append_right (Nat.le_refl _)]; simp, hu.apart2 ho (by decide) hg⟩
theorem infoRowS : (Tryz.prog.info? 78).map (fun i => (i.zero, i.size, i.bytes)) = some (some (.slice none 0 0), 1, 24) := by kernel_rfl
theorem tab_snoc (m : Nat) : tab (m + 1) = tab m ++ [TL (m + 1)] := by rw [tab_eq, tab_eq, List.range_succ, List.map_append]; rfl
theorem raw_pos (m : Nat) : 0 < (raw TL (m + 1) (m + 1)).length := by
  have h : ∀ n, 0 < (TL n).length := by
    intro n
    induction n using Nat.strongRecOn with
    | _ n ih =>
    cases n with
    | zero => decide
    | succ n =>
      rw [TL_length_succ, raw_length_succ]
      have h1 := ih n (by omega)
      have h2 := ih (n + 1 - 1 - n) (by omega)
      have := Nat.mul_pos h1 h2
      omega
  rw [← TL_length_succ]; exact h _
set_option maxHeartbeats 12800000 in
set_option maxRecDepth 100000 in
theorem trees_calls8 (n : Nat) (hn : n ≤ 8) (w : World) : Calls Tryz.prog 70 #[.int .i64 n] w fun e w' => ∃ v, e = .returned v ∧ Own w' w.heap.size 9 v (txs (TL n)) ∧ Ext w w' := by
  have nb : (n : Int) ≤ 8 := by omega
  have X1 := Lib.hid (((Ext.refl w).alloc (.cells #[.string ⟨#[46]⟩] 9)).alloc (.cells #[.slice (some ⟨w.heap.size, 0, none⟩) 1 1] 78))
  have R1 : Hid (OwnS ((w.alloc (.cells #[.string ⟨#[46]⟩] 9)).alloc (.cells #[.slice (some ⟨w.heap.size, 0, none⟩) 1 1] 78)) w.heap.size (.slice (some ⟨w.heap.size + 1, 0, none⟩) 1 1) (tab 0)) := by
    rw [show w.heap.size + 1 = (w.alloc (.cells #[.string ⟨#[46]⟩] 9)).heap.size from (Array.size_push _).symm]
    refine ⟨[.slice (some ⟨w.heap.size, 0, none⟩) 1 1], Own.lit (w.alloc (.cells #[.string ⟨#[46]⟩] 9)) w.heap.size 78 #[.slice (some ⟨w.heap.size, 0, none⟩) 1 1] ((Ext.refl w).alloc (.cells #[.string ⟨#[46]⟩] 9)).size (by show 1 ≤ maxLen; decide), rfl, (by intro u hu; simp at hu; subst hu; rfl), fun r xs e => ?_⟩
    have : r = 0 ∧ [.leaf] = xs := by
      cases r with
      | zero => simp [tab] at e; exact ⟨rfl, e⟩
      | succ r => simp [tab] at e
    obtain ⟨rfl, rfl⟩ := this
    exact ⟨_, rfl, (Own.lit w w.heap.size 9 #[.string ⟨#[46]⟩] (Nat.le_refl _) (by show 1 ≤ maxLen; decide)).ext ((Ext.refl _).alloc _)⟩
  go_enter Tryz.func70, Tryz.ntmps70
  go_wp2_with fail
  generalize (w.alloc (.cells #[.string ⟨#[46]⟩] 9)).alloc (.cells #[.slice (some ⟨w.heap.size, 0, none⟩) 1 1] 78) = W at *
  go_loopw [4, 3] (fun i v wr => ∃ m : Nat, m ≤ n ∧ i = .int .i64 ((m + 1 : Nat) : Int) ∧ Hid (OwnS wr w.heap.size v (tab m)) ∧ Hid (Ext w wr)) (fun i _ _ => n + 1 - (intOf i).toNat)
  case atStart => exact ⟨0, Nat.zero_le _, rfl, R1.out, X1.out⟩
  case round =>
    obtain ⟨m, hm, rfl, HR, HX⟩ := hrel
    generalize wr = wk at *
    obtain ⟨Aa, ca, rfl, rd⟩ := HR.out.open
    rw [tab_length] at *
    have ROW : Hid (∀ i, i ≤ m → ∃ ad B d, Aa = some ad ∧ wk.cell? (ad.add i) = some (.slice B (TL i).length d) ∧ Own wk w.heap.size 9 (.slice B (TL i).length d) (txs (TL i))) := fun i hi => rd i _ (tab_get m i hi)
    clear rd
    by_cases hlt : m < n
    · have h1 : ((m + 1 : Nat) : Int) ≤ n := by omega
      have h1b : (m : Int) + 1 ≤ n := by omega
      have mb : (0 : Int) ≤ ((m + 1 : Nat) : Int) ∧ ((m + 1 : Nat) : Int) ≤ 8 := by omega
      go_wp2_with fail
      go_loopw [19, 5] (fun i v wr => ∃ j : Nat, j ≤ m + 1 ∧ i = .int .i64 j ∧ Hid (Own wr wk.heap.size 9 v (txs (raw TL (m + 1) j))) ∧ Hid (Ext wk wr)) (fun i _ _ => m + 1 - (intOf i).toNat)
      case atStart => exact ⟨0, Nat.zero_le _, rfl, Own.nil _ _ _, Ext.refl _⟩
      case round =>
        obtain ⟨k, hk, rfl, HO, HY⟩ := hrel
        generalize wr = wj at *
        by_cases hjl : k < m + 1
        · have h2 : (0 : Int) ≤ k := by omega
          have h3 : (k : Int) < ((m + 1 : Nat) : Int) := by omega
          have h3b : (k : Int) < (m : Int) + 1 := by omega
          have RS : Hid (raw TL (m + 1) (k + 1) = raw TL (m + 1) k ++ rawJ (TL k) (TL (m - k))) := raw_succ TL (m + 1) k
          have RB := Lib.hid (raw_le8 (m + 1) k (by omega) (by omega))
          have LA := Lib.hid (TL_le8 k (by omega))
          have LB := Lib.hid (TL_le8 (m - k) (by omega))
          have K4 : Hid (k ≤ 8) := by show _ ≤ _; omega
          have CA : Hid (∀ T ∈ TL k, T.carets ≤ 900000000) := fun T hT => by rw [TL_carets k T hT]; omega
          have CB : Hid (∀ T ∈ TL (m - k), T.carets ≤ 900000000) := fun T hT => by rw [TL_carets _ T hT]; omega
          obtain ⟨ad, B1, d1, rfl, cA, rA⟩ := ROW.out k (by omega)
          obtain ⟨ad', B2, d2, e1, cB, rB⟩ := ROW.out (m - k) (by omega)
          injection e1 with e1
          subst e1
          have cA := Lib.hid (HY.out.cell cA)
          have cB := Lib.hid cB
          have rA := Lib.hid (rA.reads)
          have rB := Lib.hid (rB.reads)
          have ib : (0 : Int) ≤ (m : Int) - k ∧ (m : Int) - k < (m : Int) + 1 := by omega
          have cA0 := cA.out
          generalize raw TL (m + 1) k = P at *
          generalize TL k = A at *
          generalize TL (m - k) = B at *
          have la := LA.out
          have lb := LB.out
          go_wp2_with fail
          go_loopw [27, 5] (fun i v wr => ∃ i' : Nat, i' ≤ A.length ∧ i = .int .i64 i' ∧ Hid (Own wr wk.heap.size 9 v (txs (P ++ rawJ (A.take i') B))) ∧ Hid (Ext wk wr)) (fun i _ _ => A.length - (intOf i).toNat)
          case atStart => exact ⟨0, Nat.zero_le _, rfl, (by rw [List.take_zero, show rawJ [] B = [] from rfl, List.append_nil]; exact HO.out), HY.out⟩
          case round =>
            obtain ⟨i, hi, rfl, HO, HY⟩ := hrel
            generalize wr = wi at *
            by_cases hil : i < A.length
            · have h4 : (0 : Int) ≤ i := by omega
              have h5 : (i : Int) < A.length := by omega
              have hg : A[i]? = some A[i] := List.getElem?_eq_getElem hil
              obtain ⟨ad1, rfl, c1⟩ := (rA.out.ext HY.out).txs_cell hg
              have RT := Lib.hid (rawJ_take A B i _ hg)
              have RJ : Hid ((rawJ (A.take i) B).length ≤ 2044900) := by
                show _ ≤ _
                rw [rawJ_length]
                exact Nat.le_trans (Nat.mul_le_mul (show (A.take i).length ≤ 1430 by rw [List.length_take]; omega) lb) (by decide)
              have TA : Hid (A[i].carets ≤ 900000000) := CA.out _ (List.getElem_mem _)
              generalize A[i] = ta at *
              generalize rawJ (A.take i) B = PJ at *
              have cB1 := HY.out.cell cB.out
              go_wp2_with fail
              go_loopw [39, 5] (fun i v wr => ∃ j : Nat, j ≤ B.length ∧ i = .int .i64 j ∧ Hid (Own wr wk.heap.size 9 v (txs (P ++ PJ ++ (B.take j).map (Tr.node ta)))) ∧ Hid (Ext wk wr)) (fun i _ _ => B.length - (intOf i).toNat)
              case atStart => exact ⟨0, Nat.zero_le _, rfl, (by rw [List.take_zero, List.map_nil, List.append_nil]; exact HO.out), HY.out⟩
              case round =>
                obtain ⟨j, hj, rfl, HO, HY⟩ := hrel
                generalize wr = wz at *
                by_cases hjl : j < B.length
                · have h6 : (0 : Int) ≤ j := by omega
                  have h7 : (j : Int) < B.length := by omega
                  have hg2 : B[j]? = some B[j] := List.getElem?_eq_getElem hjl
                  obtain ⟨ad2, rfl, c2⟩ := (rB.out.ext HY.out).txs_cell hg2
                  have RM := Lib.hid (mapN_take ta B j _ hg2)
                  have TB : Hid (B[j].carets ≤ 900000000) := CB.out _ (List.getElem_mem _)
                  have LL : Hid (((txs (P ++ PJ ++ (B.take j).map (Tr.node ta))).length + (txs [Tr.node ta B[j]]).length) * 16 ≤ 140737488355328) := by
                    show _ ≤ _
                    rw [txs_length, txs_length, List.length_append, List.length_append, List.length_map, List.length_take]
                    have := RB.out; have := RJ.out; have := K4.out
                    simp only [List.length_singleton]
                    omega
                  generalize B[j] = tb at *
                  have sa : (tx ta).size ≤ 3000000000 := by rw [tx_size]; have := TA.out; omega
                  have sb : (tx tb).size ≤ 3000000000 := by rw [tx_size]; have := TB.out; omega
                  have EN : Hid (((⟨#[40]⟩ ++ tx ta) ++ tx tb) ++ ⟨#[41]⟩ = tx (.node ta tb)) := (tx_node ta tb).symm
                  have TN : Hid (txs [Tr.node ta tb] = [.string (((⟨#[40]⟩ ++ tx ta) ++ tx tb) ++ ⟨#[41]⟩)]) := by show _ = _; rw [EN.out]; rfl
                  generalize tx ta = xa at *
                  generalize tx tb = xb at *
                  have O3 := HO.out.ext ((Ext.refl wz).alloc (.cells #[.string (((⟨#[40]⟩ ++ xa) ++ xb) ++ ⟨#[41]⟩)] 9))
                  have X3 := HY.out.alloc (.cells #[.string (((⟨#[40]⟩ ++ xa) ++ xb) ++ ⟨#[41]⟩)] 9)
                  have R3 : Reads (wz.alloc (.cells #[.string (((⟨#[40]⟩ ++ xa) ++ xb) ++ ⟨#[41]⟩)] 9)) (.slice (some ⟨wz.heap.size, 0, none⟩) 1 1) (txs [Tr.node ta tb]) := by rw [TN.out]; exact lit_readsS wz _
                  have B3 := Lib.hid X3.size
                  go_wp2_with (at_builtin; refine wpList_app rfl (.tmp 43) (.tmp 49) 78 rfl wk.heap.size 9 (.string ⟨#[]⟩) 16 Tryz.underlying78 infoStr rfl (by omega) _ _ _ (txs [Tr.node ta tb]) rfl rfl O3 R3 (txs_one _) LL.out B3.out ?_; intro v4 w4 o4 g4 q4)
                  have X4 := Lib.hid (X3.grown g4 O3.lo)
                  rw [txs_append, List.append_assoc _ _ [Tr.node ta tb], ← RM.out] at o4
                  have O4 := Lib.hid o4
                  clear o4 g4 q4 O3 X3 R3
                  go_wp2_with fail
                  refine ⟨?_, by simp [intOf]; omega⟩
                  repeat apply Exists.intro
                  exact ⟨⟨j + 1, by omega, by go_num, O4.out, X4.out⟩, rfl⟩
                · have h6 : (B.length : Int) ≤ j := by omega
                  obtain rfl : j = B.length := by omega
                  have O5 := HO.out
                  rw [List.take_length, List.append_assoc, ← RT.out] at O5
                  have O5 := Lib.hid O5
                  go_wp2_with fail
                  exact ⟨⟨i + 1, by omega, by go_num, O5.out, HY.out⟩, by simp [intOf]; omega⟩
            · have h4 : (A.length : Int) ≤ i := by omega
              obtain rfl : i = A.length := by omega
              have O5 := HO.out
              rw [List.take_length, ← RS.out] at O5
              have O5 := Lib.hid O5
              go_wp2_with fail
              exact ⟨⟨k + 1, by omega, by go_num, O5.out, HY.out⟩, by simp [intOf]; omega⟩
        · have h2 : ((m + 1 : Nat) : Int) ≤ k := by omega
          obtain rfl : k = m + 1 := by omega
          have LR : Hid ((raw TL (m + 1) (m + 1)).length ≤ 1000000) := by show _ ≤ _; rw [← TL_length_succ]; have := TL_le8 (m + 1) (by omega); omega
          have LP := Lib.hid (raw_pos m)
          have ES : Hid (strs (srt ((raw TL (m + 1) (m + 1)).map tx)) = txs (TL (m + 1))) := by show _ = _; rw [txs, TL_succ, srtT_tx]
          have TS := Lib.hid (tab_snoc m)
          have TLn : Hid ((tab m).length = m + 1) := tab_length m
          have HR2 := HR.out.ext HY.out
          generalize TL (m + 1) = F at *
          generalize raw TL (m + 1) (m + 1) = R at *
          generalize tab m = TB at *
          go_wp2_with fail
          refine (sortStr_calls _ (R.map tx) wk.heap.size _ (by rw [List.length_map]; exact LP.out) (by rw [List.length_map]; exact LR.out) HO.out).mono ?_
          rintro e w2 ⟨rfl, o2, g2⟩
          have Y2 := HY.out.grown g2 HO.out.lo
          rw [ES.out] at o2
          obtain ⟨A3, c3, rfl⟩ := o2.txs
          have hone : (Value.slice A3 F.length c3).oneCell' = true := rfl
          have Z3 := Y2.alloc (.cells #[.slice A3 F.length c3] 78)
          obtain ⟨us, oa, ol, o1, orr⟩ := HR.out.ext Z3
          have hu := (o2.ext ((Ext.refl w2).alloc (.cells #[.slice A3 F.length c3] 78))).mono HX.out.size
          have R7 := (Own.lit w2 0 78 #[.slice A3 F.length c3] (Nat.zero_le _) (by show 1 ≤ maxLen; decide)).reads
          have L7 : Hid ((us.length + ([.slice A3 F.length c3] : List Value).length) * 24 ≤ 140737488355328) := by show _ ≤ _; rw [ol, TLn.out]; simp only [List.length_singleton]; omega
          have B7 := Lib.hid (HX.out.trans Z3).size
          clear HR2 HO
          go_wp2_with (at_builtin; refine wpList_app rfl (.tmp 56) (.tmp 58) 110 rfl w.heap.size 78 (.slice none 0 0) 24 Tryz.underlying110 infoRowS rfl (by omega) _ _ _ [.slice A3 F.length c3] rfl rfl oa R7 (vals_one2 _ hone) L7.out B7.out ?_; intro v8 w8 o8 g8 _)
          have O8 := OwnS.snoc oa ol o1 orr hu o8 g8 hone
          rw [← TS.out] at O8
          have O8 := Lib.hid O8
          have X8 := Lib.hid ((HX.out.trans Z3).grown g8 oa.lo)
          clear o2 g2 Y2 Z3 oa ol o1 orr hu R7 o8 g8
          go_wp2_with fail
          exact ⟨⟨m + 1, by omega, by go_num, O8.out, X8.out⟩, by simp [intOf]; omega⟩
    · have h1 : (n : Int) < ((m + 1 : Nat) : Int) := by omega
      obtain rfl : m = n := by omega
      obtain ⟨ad, B, d, rfl, cA, rA⟩ := ROW.out m (Nat.le_refl _)
      have rA := Lib.hid rA
      have mb : (0 : Int) ≤ (m : Int) ∧ (m : Int) < (m : Int) + 1 := by omega
      go_wp2_with fail
      go_ret
      exact ⟨_, rfl, rA.out, HX.out⟩
theorem trees_calls (n : Nat) (hn : n ≤ 4) (w : World) : Calls Tryz.prog 70 #[.int .i64 n] w fun e w' => ∃ v, e = .returned v ∧ Own w' w.heap.size 9 v (txs (TL n)) ∧ Ext w w' := trees_calls8 n (by omega) w
end Go.Proofs.YtdcipaaclpedhaaGreat.N
