import Derived.Shelf.Small.Strs
import Derived.Test.YtdcipaaclpedhaaGreatXr7
import Derived.Test.YtdcipaaclpedhaaGreatXr14
import Derived.Test.YtdcipaaclpedhaaGreatXr17
/- A part of the proof: lemmas that later parts use. -/
set_option linter.unusedVariables false
set_option linter.unusedSimpArgs false
namespace Go.Proofs.YtdcipaaclpedhaaGreat.N
open Go.RowKit Go.Sort Go.Shelf
def cmpRen : Go.Shelf.Ren := ⟨fun
  | 106 => 73 | 213 => 94 | 265 => 107
  | n => n, fun
  | n => n, fun
  | n => n⟩
theorem strCmp : Go.Proofs.Lays.n106 Tryz.prog cmpRen := {
  mixed := by kernel_rfl,
  f106 := Tryz.func73.trans (congrArg some (by kernel_rfl)),
  f213 := Tryz.func94.trans (congrArg some (by kernel_rfl)),
  f265 := Tryz.func107.trans (congrArg some (by kernel_rfl)),
  t3 := Tryz.underlying3, a3 := Tryz.isAgg3, z3 := Tryz.sizeOf3, v3 := Tryz.zeroValue3,
  t9 := Tryz.underlying9, a9 := Tryz.isAgg9, z9 := Tryz.sizeOf9, v9 := Tryz.zeroValue9 }
theorem cmp_lt' : ∀ a b : List UInt8, Go.Lib.compareBytes a b < 0 ↔ Op.bytesLess a b = true
  | [], [] => by simp [Go.Lib.compareBytes, Op.bytesLess]
  | [], _ :: _ => by simp [Go.Lib.compareBytes, Op.bytesLess]
  | _ :: _, [] => by simp [Go.Lib.compareBytes, Op.bytesLess]
  | a :: xs, b :: ys => by
    by_cases h1 : a < b
    · simp [Go.Lib.compareBytes, Op.bytesLess, h1]
    · by_cases h2 : b < a
      · have h3 : ¬ a = b := fun h => by subst h; exact h1 h2
        simp [Go.Lib.compareBytes, Op.bytesLess, h1, h2, h3]
      · have h3 : a = b := UInt8.le_antisymm (UInt8.not_lt.1 h2) (UInt8.not_lt.1 h1)
        subst h3
        rw [Go.Lib.compareBytes, if_neg h1, if_neg h1, cmp_lt' xs ys]
        simp [Op.bytesLess, h1]
theorem cmp_lt (a b : List UInt8) : decide (Go.Lib.compareBytes a b < 0) = Op.bytesLess a b := by
  rw [Bool.eq_iff_iff, decide_eq_true_iff]; exact cmp_lt' a b
abbrev PairIn : Type := { p : TP // p.1.carets ≤ 1000 ∧ p.2.carets ≤ 1000 }
instance : Inhabited PairIn := ⟨⟨(.leaf, .leaf), by simp [Tr.carets]⟩⟩
def encP (x : PairIn) : List Value := [.string (tx x.1.1), .string (tx x.1.2)]
def cfP (x y : PairIn) : Int := Go.Lib.compareBytes (ptx x.1).data.toList (ptx y.1).data.toList
theorem ltP2 (x y : PairIn) : ltOf cfP x y = blt (ptx x.1) (ptx y.1) := by
  unfold ltOf cfP blt
  rw [cmp_lt, ByteArray.toList_eq, ByteArray.toList_eq]
theorem swoP : SWO (ltOf cfP) where
  irrefl x := by rw [ltP2]; exact blt_irrefl _
  trans x y z h1 h2 := by rw [ltP2] at *; exact blt_trans h1 h2
  ntrans x y z h1 h2 := by rw [ltP2] at *; exact blt_ntrans h1 h2
set_option maxHeartbeats 3200000 in
theorem cmpPair_calls (x y : PairIn) (W : World) :
    Calls Tryz.prog 72 #[.agg #[.string (tx x.1.1), .string (tx x.1.2)], .agg #[.string (tx y.1.1), .string (tx y.1.2)]] W fun e w' => e = .returned (.int .i64 (cfP x y)) ∧ ∃ q os', w' = grow (W.drewN q) os' := by
  have hc := Lib.hid (fun W' => Any.strings_Compare strCmp (ptx x.1) (ptx y.1) W')
  change Hid (∀ W', Calls Tryz.prog 73 _ _ _) at hc
  have E1 : Hid ((tx x.1.1 ++ (⟨#[62]⟩ : ByteArray)) ++ tx x.1.2 = ptx x.1) := ptx_eq x.1
  have E2 : Hid ((tx y.1.1 ++ (⟨#[62]⟩ : ByteArray)) ++ tx y.1.2 = ptx y.1) := ptx_eq y.1
  have s1 : (tx x.1.1).size ≤ 3000000001 := by have := x.2.1; have : (tx x.1.1).size = 3 * x.1.1.carets + 1 := Tr.txt_length _; omega
  have s2 : (tx x.1.2).size ≤ 3000000001 := by have := x.2.2; have : (tx x.1.2).size = 3 * x.1.2.carets + 1 := Tr.txt_length _; omega
  have s3 : (tx y.1.1).size ≤ 3000000001 := by have := y.2.1; have : (tx y.1.1).size = 3 * y.1.1.carets + 1 := Tr.txt_length _; omega
  have s4 : (tx y.1.2).size ≤ 3000000001 := by have := y.2.2; have : (tx y.1.2).size = 3 * y.1.2.carets + 1 := Tr.txt_length _; omega
  have hf : Hid (cfP x y = Go.Lib.compareBytes (ptx x.1).data.toList (ptx y.1).data.toList) := rfl
  rw [hf.out]
  clear hf
  generalize Go.Lib.compareBytes (ptx x.1).data.toList (ptx y.1).data.toList = r at *
  generalize ptx x.1 = z1 at *
  generalize ptx y.1 = z2 at *
  generalize tx x.1.1 = a1 at *
  generalize tx x.1.2 = a2 at *
  generalize tx y.1.1 = b1 at *
  generalize tx y.1.2 = b2 at *
  go_enter Tryz.func72, Tryz.ntmps72
  go_wp2_with fail
  rw [E1.out, E2.out]
  refine (hc.out _).mono ?_
  rintro e w' ⟨rfl, rfl⟩
  go_wp2_with fail
  go_ret
  exact ⟨rfl, 0, _, by rw [alloc_eq_grow, alloc_eq_grow, grow_grow]; rfl⟩
theorem flat_psP (d : Array PairIn) : (flatK encP 2 d).toList = psP (d.toList.map fun x => x.1) := by
  apply List.ext_getElem?
  intro t
  by_cases h : t < d.size * 2
  · have hq : t / 2 < d.size := by omega
    have e1 : (d.toList.map fun x => x.1)[t / 2]? = some d[t / 2].1 := by simp [hq]
    obtain ⟨g0, g1⟩ := psP_get _ _ _ e1
    have e2 : (flatK encP 2 d).toList[t]? = some ((encP d[t / 2]!)[t % 2]!) := by
      rw [Array.getElem?_toList, ← get_flatK encP 2 d t h, getElem?_pos _ t (by rw [size_flatK]; exact h), getElem!_pos _ t (by rw [size_flatK]; exact h)]
    rw [e2, getElem!_pos d (t / 2) hq]
    rcases Nat.mod_two_eq_zero_or_one t with h2 | h2
    · have h3 : t / 2 * 2 = t := by omega
      rw [h3] at g0
      rw [g0, h2]; rfl
    · have h3 : t / 2 * 2 + 1 = t := by omega
      rw [h3] at g1
      rw [g1, h2]; rfl
  · rw [List.getElem?_eq_none (by simp; omega), List.getElem?_eq_none (by rw [psP_length, List.length_map, Array.length_toList]; omega)]
set_option maxHeartbeats 3200000 in
theorem insSortP_none (fv : Value) (w : World) :
    Calls Tryz.prog 97 #[.slice none 0 0, .int .i64 0, .int .i64 0, fv] w fun e w' => e = .returned (.tuple #[]) ∧ w' = w := by
  go_enter Tryz.func97, Tryz.ntmps97
  go_wp2_with fail
  refine wp_loop_rounds 1 ?_
  rw [rounds_succ]
  go_wp2_with fail
  go_end0
  exact ⟨rfl, rfl⟩
set_option maxHeartbeats 3200000 in
theorem pdqP_none (lim : Int) (fv : Value) (w : World) :
    Calls Tryz.prog 92 #[.slice none 0 0, .int .i64 0, .int .i64 0, .int .i64 lim, fv] w fun e w' => e = .returned (.tuple #[]) ∧ w' = w := by
  have C1 := Lib.hid (fun W => insSortP_none fv W)
  go_enter Tryz.func92, Tryz.ntmps92
  go_wp2_with fail
  refine wp_loop_rounds 1 ?_
  rw [rounds_succ]
  go_wp2_with fail
  refine (C1.out _).mono ?_
  rintro e w1 ⟨rfl, rfl⟩
  go_wp2_with fail
  (try simp only [Exit.inBlock, Exit.then]); refine bodyPost_ret (results_none rfl _ _ _) rfl ?_
  exact ⟨rfl, rfl⟩
set_option maxHeartbeats 3200000 in
theorem sortP_none (fv : Value) (w : World) :
    Calls Tryz.prog 71 #[.slice none 0 0, fv] w fun e w' => e = .returned (.tuple #[]) ∧ w' = w := by
  have C1 := Lib.hid (fun l W => pdqP_none l fv W)
  have C2 : Hid (∀ W, Calls Tryz.prog 93 #[.int .u64 0] W fun e w' => e = .returned (.int .i64 (Lib.bitLen 0 : Nat)) ∧ w' = W) := fun W =>
    Any.bits_Len (SlLaysF0.n15.bits (P := Tryz.prog) (ρ := sortPair_ren) { sortPair with }) 0 W (by omega) (by omega)
  generalize (Lib.bitLen 0) = z at *
  go_enter Tryz.func71, Tryz.ntmps71
  go_wp2_with fail
  refine (C2.out _).mono ?_
  rintro e w1 ⟨rfl, rfl⟩
  go_wp2_with fail
  refine (C1.out _ _).mono ?_
  rintro e w1 ⟨rfl, rfl⟩
  go_wp2_with fail
  go_end0
  exact ⟨rfl, rfl⟩
theorem psIn (l : List TP) (h : ∀ p ∈ l, p.1.carets ≤ 1000 ∧ p.2.carets ≤ 1000) : ∃ d : List PairIn, d.map (fun x => x.1) = l := by
  induction l with
  | nil => exact ⟨[], rfl⟩
  | cons p l ih =>
    obtain ⟨d, hd⟩ := ih (fun q hq => h q (List.mem_cons_of_mem _ hq))
    exact ⟨⟨p, h p List.mem_cons_self⟩ :: d, by simp [hd]⟩
set_option maxHeartbeats 3200000 in
theorem sortPairs_calls (w : World) (l : List TP) (base : Nat) (v : Value) (hl : l.length ≤ 100000) (hc : ∀ p ∈ l, p.1.carets ≤ 1000 ∧ p.2.carets ≤ 1000) (ho : w.ownsRow base 25 2 v l.length (psP l)) :
    Calls Tryz.prog 71 #[v, .func (.func 72) #[] #[]] w fun e w' => e = .returned (.tuple #[]) ∧ w'.ownsRow base 25 2 v l.length (psP (srtP l)) ∧ w.grownBy w' v.ownBlock := by
  rcases ho.2 with ⟨rfl, h0⟩ | ⟨g, cap, cur, rfl, hbase, hb, h1, h2, h3, h4⟩
  · refine (sortP_none _ w).mono ?_
    rintro e w' ⟨rfl, rfl⟩
    obtain rfl : l = [] := List.length_eq_zero_iff.1 h0
    exact ⟨rfl, ho, grownBy_refl _ _⟩
  · obtain ⟨d, hd⟩ := psIn l hc
    have hs : d.toArray.size = l.length := by rw [← hd]; simp
    have hf : (flatK encP 2 d.toArray).toList = psP l := by rw [flat_psP]; exact congrArg psP hd
    have hfs : (flatK encP 2 d.toArray).size = l.length * 2 := by rw [size_flatK, hs]
    have hH : HoldsK encP 2 w g 0 d.toArray := by
      unfold HoldsK
      refine holdsE id hb ?_
      rw [hfs, h4, List.map_id, hf]
    have eg : ∀ args w, (callFunc 72 args).run Tryz.prog w = .ok (.enter 72 args) w := enters_of Tryz.func72 (by kernel_rfl) rfl
    have hcmp : CmpLays Tryz.prog 72 #[] encP 2 cfP g 0 d.toArray.size w := fun _ _ _ _ x y => cmpPair_calls x y _
    have C := AnyQ.slices_SortFunc sortPair 2 Tryz.isAgg25 Tryz.sizeOf25 encP (fun _ => rfl) (fun x v hv => by simp [encP] at hv; rcases hv with rfl | rfl <;> rfl) cfP swoP 72 #[] g 0 cap d.toArray w eg hcmp hH (Array.getElem?_eq_some_iff.1 hb).1 (by rw [hs]; omega)
    rw [hs] at C
    refine C.mono ?_
    rintro e w' ⟨rfl, d', n, os, ⟨hds, _, hp⟩, hso, rfl⟩
    have hds : d'.size = l.length := by omega
    rw [Array.extract_eq_self_of_le (by omega), Array.extract_eq_self_of_le (by omega)] at hp
    have hp' : d'.toList.Perm d := hp
    have e1 : d'.toList.map (fun x => x.1) = srtP l := by
      refine srtP_of ?_ ?_
      · rw [← hd]; exact hp'.map _
      · unfold Srt
        rw [List.pairwise_iff_getElem]
        intro i j hi hj hij
        simp only [List.length_map, Array.length_toList] at hi hj
        have := hso i j (Nat.zero_le _) hij (by omega)
        rw [ltP2, getElem!_pos d' i (by omega), getElem!_pos d' j (by omega)] at this
        simpa using this
    have e2 : (flatK encP 2 d').toList = psP (srtP l) := by rw [flat_psP, e1]
    have e3 : (flatK encP 2 d').size = l.length * 2 := by rw [size_flatK, hds]
    refine ⟨rfl, ?_, grownBy_sortedE id (flatK encP 2 d')⟩
    refine ⟨?_, .inr ⟨g, cap, _, rfl, hbase, heap_sortedE id (flatK encP 2 d') hb, h1, h2, by simp [putCells, h3], ?_⟩⟩
    · rw [psP_length, (srtP_perm l).length_eq]
    · rw [← e3, take_putCellsE id cur (flatK encP 2 d') (by rw [e3, h3]; exact Nat.mul_le_mul_right 2 h1), List.map_id, e2]
end Go.Proofs.YtdcipaaclpedhaaGreat.N
namespace Go.Proofs.YtdcipaaclpedhaaGreat.N
open Go.RowKit
theorem infoPr : (Tryz.prog.info? 25).map (fun i => (i.zero, i.size, i.bytes)) = some (some (.agg #[.string ⟨#[]⟩, .string ⟨#[]⟩]), 2, 32) := by kernel_rfl
set_option maxHeartbeats 12800000 in
set_option maxRecDepth 100000 in
theorem reducedPairs_calls (n : Nat) (hn : n ≤ 4) (w : World) : Calls Tryz.prog 47 #[.int .i64 n] w fun e w' => ∃ v, e = .returned v ∧ w'.ownsRow w.heap.size 25 2 v (prs n).length (psP (prs n)) ∧ Ext w w' := by
  have CT := Lib.hid (trees_calls n hn)
  have LA := TL_le n hn
  have CA : Hid (∀ T ∈ TL n, T.carets = n) := TL_carets n
  have EP : Hid (prs n = srtP (redA (TL n) (TL n))) := rfl
  have RL := Lib.hid (redA_length (TL n) (TL n))
  have RM : Hid (∀ p ∈ redA (TL n) (TL n), p.1.carets ≤ 1000 ∧ p.2.carets ≤ 1000) := fun p hp => by
    obtain ⟨h1, h2, _⟩ := redA_mem hp
    rw [TL_carets n _ h1, TL_carets n _ h2]; omega
  generalize TL n = A at *
  go_enter Tryz.func47, Tryz.ntmps47
  go_wp2_with fail
  refine (CT.out _).mono ?_
  rintro e w1 ⟨v1, rfl, o1, x1⟩
  obtain ⟨A1, c1, rfl⟩ := o1.txs
  have R1 := Lib.hid o1.reads
  have X1 := Lib.hid x1
  clear o1 x1
  go_wp2_with fail
  go_loopw [16, 3] (fun i v wr => ∃ i' : Nat, i' ≤ A.length ∧ i = .int .i64 i' ∧ Hid (wr.ownsRow w1.heap.size 25 2 v (redA (A.take i') A).length (psP (redA (A.take i') A))) ∧ Hid (Ext w1 wr)) (fun i _ _ => A.length - (intOf i).toNat)
  case atStart => exact ⟨0, Nat.zero_le _, rfl, World.ownsRow_nil _ _ _ _, Ext.refl _⟩
  case round =>
    obtain ⟨i, hi, rfl, HO, HX⟩ := hrel
    generalize wr = wi at *
    by_cases hil : i < A.length
    · have h2 : (0 : Int) ≤ i := by omega
      have h3 : (i : Int) < A.length := by omega
      have hg : A[i]? = some A[i] := List.getElem?_eq_getElem hil
      obtain ⟨ad, rfl, ca⟩ := (R1.out.ext HX.out).txs_cell hg
      have RT := Lib.hid (redA_take A A i _ hg)
      have RJ : Hid ((redA (A.take i) A).length ≤ 196) := Nat.le_trans (redA_length _ _) (Nat.le_trans (Nat.mul_le_mul (show (A.take i).length ≤ 14 by rw [List.length_take]; omega) LA) (by decide))
      have TA := CA.out _ (List.getElem_mem hil)
      generalize A[i] = ta at *
      generalize redA (A.take i) A = P at *
      go_wp2_with fail
      go_loopw [22, 3] (fun i v wr => ∃ j : Nat, j ≤ A.length ∧ i = .int .i64 j ∧ Hid (wr.ownsRow w1.heap.size 25 2 v (P ++ redR ta (A.take j)).length (psP (P ++ redR ta (A.take j)))) ∧ Hid (Ext w1 wr)) (fun i _ _ => A.length - (intOf i).toNat)
      case atStart => exact ⟨0, Nat.zero_le _, rfl, (by rw [List.take_zero, show redR ta [] = [] from rfl, List.append_nil]; exact HO.out), HX.out⟩
      case round =>
        obtain ⟨j, hj, rfl, HO, HX⟩ := hrel
        generalize wr = wj at *
        by_cases hjl : j < A.length
        · have h4 : (0 : Int) ≤ j := by omega
          have h5 : (j : Int) < A.length := by omega
          have hg2 : A[j]? = some A[j] := List.getElem?_eq_getElem hjl
          obtain ⟨ad2, e2, cb⟩ := (R1.out.ext HX.out).txs_cell hg2
          injection e2 with e2
          subst e2
          have RM2 := Lib.hid (redR_take ta A j _ hg2)
          have TB := CA.out _ (List.getElem_mem hjl)
          have RN : Hid ((P ++ redR ta (A.take j)).length ≤ 210) := by
            show _ ≤ _
            rw [List.length_append]
            have := redR_length ta (A.take j)
            rw [List.length_take] at this
            have := RJ.out
            omega
          generalize A[j] = tb at *
          obtain ⟨PJ, hPJ⟩ : ∃ PJ, P ++ redR ta (A.take j) = PJ := ⟨_, rfl⟩
          rw [hPJ] at HO RN
          have HPJ := Lib.hid hPJ
          clear hPJ
          have CP := Lib.hid (pairOf_yes ta tb (by omega) (by omega))
          have CB := Lib.hid (fun pa pb W ra rb => both_calls ta tb (by omega) (by omega) pa pb W ra rb)
          generalize hxa : tx ta = xa at *
          generalize hxb : tx tb = xb at *
          go_wp2_with fail
          refine (CP.out _).mono ?_
          rintro e w2 ⟨pa, pb, rfl, ra, rb, x2⟩
          have b9 := x2.at (heap_alloc_new wj (.cells #[.string xa, .string xb] 25))
          have Y2 := ((Ext.refl wj).alloc (.cells #[.string xa, .string xb] 25)).trans x2
          have ra := ra.ext ((Ext.refl w2).alloc (.cells #[.pointer pa, .pointer pb] 57))
          have rb := rb.ext ((Ext.refl w2).alloc (.cells #[.pointer pa, .pointer pb] 57))
          have C2 := Lib.hid (CB.out pa pb _ ra rb)
          clear ra rb x2
          go_wp2_with fail
          refine C2.out.mono ?_
          rintro e w3 ⟨v3, rfl, o3, x3⟩
          obtain ⟨A3, c3, rfl, _, _⟩ := o3.reads
          have Y3 := Lib.hid (Y2.trans (((Ext.refl w2).alloc (.cells #[.pointer pa, .pointer pb] 57)).trans x3))
          obtain ⟨d0, d1⟩ := cells_of ((((Ext.refl w2).alloc (.cells #[.pointer pa, .pointer pb] 57)).trans x3).at b9)
          have NL : (nats (bothT ta tb)).length = (bothT ta tb).length := by simp [nats, ints]
          have BL : (bothT ta tb).length ≤ 4 := Nat.le_trans (both_length ta tb) (by omega)
          rw [NL]
          clear o3 x3 b9 Y2
          cases hb : bothT ta tb with
          | nil =>
            rw [hb] at RM2
            have EM : Hid (psP PJ ++ [.string xa, .string xb] = psP (P ++ redR ta (A.take (j + 1)))) := by
              show _ = _
              rw [RM2.out, ← List.append_assoc, HPJ.out, psP_append, ← hxa, ← hxb]; rfl
            have EN : Hid (PJ.length + 1 = (P ++ redR ta (A.take (j + 1))).length) := by
              show _ = _
              rw [RM2.out, ← List.append_assoc, HPJ.out, List.length_append]; rfl
            have O3 := row_ext HO.out (Y3.out.alloc (.cells #[.string xa, .string xb] 25))
            have X3 := Lib.hid ((HX.out.trans Y3.out).alloc (.cells #[.string xa, .string xb] 25))
            have pl := RN.out
            go_wp2_with (at_builtin; refine wpList_appK rfl (.tmp 38) (.tmp 40) 28 rfl w1.heap.size 25 _ 2 32 Tryz.underlying28 infoPr rfl (by omega) _ PJ.length 1 1 _ _ [.string xa, .string xb] rfl rfl O3 rfl (new_cells w3 #[.string xa, .string xb] _) (by simp [Value.oneCell']) (by unfold maxLen; omega) (by omega) X3.out.size ?_; intro v4 w4 o4 g4 _)
            have X4 := Lib.hid (X3.out.grown g4 (fun k hk => (World.ownsRow.lt O3 k hk).1))
            rw [EM.out, EN.out] at o4
            have O4 := Lib.hid o4
            clear o4 g4 O3
            go_wp2_with fail
            exact ⟨⟨j + 1, by omega, by go_num, O4.out, X4.out⟩, by simp [intOf]; omega⟩
          | cons z zs =>
            rw [hb] at RM2
            have ER : Hid (PJ = P ++ redR ta (A.take (j + 1))) := by
              show _ = _
              rw [RM2.out, ← List.append_assoc, HPJ.out]; simp
            have X4 := Lib.hid (HX.out.trans Y3.out)
            have O4 := row_ext HO.out Y3.out
            rw [ER.out] at O4
            have O4 := Lib.hid O4
            have zl : ((zs.length : Int) + 1 == 0) = false := by simp; omega
            rw [List.length_cons]
            go_wp2_with fail
            exact ⟨⟨j + 1, by omega, by go_num, O4.out, X4.out⟩, by simp [intOf]; omega⟩
        · have h4 : (A.length : Int) ≤ j := by omega
          obtain rfl : j = A.length := by omega
          have O5 := HO.out
          rw [List.take_length, ← RT.out] at O5
          have O5 := Lib.hid O5
          go_wp2_with fail
          exact ⟨⟨i + 1, by omega, by go_num, O5.out, HX.out⟩, by simp [intOf]; omega⟩
    · have h2 : (A.length : Int) ≤ i := by omega
      obtain rfl : i = A.length := by omega
      have O5 := HO.out
      rw [List.take_length] at O5
      have RL2 : (redA A A).length ≤ 196 := Nat.le_trans RL.out (Nat.le_trans (Nat.mul_le_mul LA LA) (by decide))
      have SO := Lib.hid (sortPairs_calls wi (redA A A) w1.heap.size _ (by omega) RM.out O5)
      have LS : Hid ((prs n).length = (redA A A).length) := by show _ = _; rw [EP.out]; exact (srtP_perm _).length_eq
      have O5 := Lib.hid O5
      go_wp2_with fail
      refine SO.out.mono ?_
      rintro e w2 ⟨rfl, o2, g2⟩
      have X2 := Lib.hid (X1.out.trans (HX.out.grown g2 (fun k hk => (World.ownsRow.lt O5.out k hk).1)))
      have O2 := Lib.hid (row_mono o2 X1.out.size)
      go_wp2_with fail
      go_ret
      exact ⟨_, rfl, (by rw [LS.out, EP.out]; exact O2.out), X2.out⟩
end Go.Proofs.YtdcipaaclpedhaaGreat.N
namespace Go.Proofs.YtdcipaaclpedhaaGreat.N
open Go.RowKit
section
variable {P : Program}
theorem wpList_appRow {w : World} {ops : Array Oper} {rest : List Oper} {o : Oper} {a : Act} {Q : Exit → Act → World → Prop} (hgd : o.guard = none) (x y : Operand) (t : TypeId)
    (ho : o.op = .call { callee := .builtin .append, args := #[x, y], argTypes := #[t, t] })
    (base : Nat) (e : TypeId) (z : Value) (size bytes : Nat) (ht : P.underlying t = some (.slice e)) (hinfo : (P.info? e).map (fun i => (i.zero, i.size, i.bytes)) = some (some z, size, bytes)) (hz : z.cells.size = size) (hs0 : 0 < size)
    (v s : Value) (n m b2 : Nat) (xs news : List Value) (hx : a.eval x = v) (hy : a.eval y = s) (hown : w.ownsRow base e size v n xs) (hs : w.ownsRow b2 e size s m news) (h1 : ∀ u ∈ news, u.oneCell' = true)
    (h63 : n + m ≤ maxLen) (hbytes : (n + m) * bytes ≤ 140737488355328) (hbase : base ≤ w.heap.size)
    (h : ∀ v' w', w'.ownsRow base e size v' (n + m) (xs ++ news) → w.grownBy w' v.ownBlock → (v'.ownBlock = v.ownBlock ∨ v'.ownBlock = some w.heap.size) → wpList P ops Q rest (a.put o.dst v') w') : wpList P ops Q (o :: rest) a w := by
  rcases hs.2 with ⟨rfl, h0⟩ | ⟨g, cap, cur, rfl, _⟩
  · subst h0
    obtain rfl : news = [] := List.eq_nil_of_length_eq_zero (by have := hs.1; omega)
    obtain ⟨i, hi, _⟩ := Option.map_eq_some_iff.1 hinfo
    refine wpList_append_own_none hgd x y t ho base e i size ht hi v n xs hx hown hy ?_
    exact h v w (by simpa using hown) (grownBy_refl _ _) (.inl rfl)
  · exact wpList_appK hgd x y t ho base e z size bytes ht hinfo hz hs0 v n m cap ⟨g, 0, none⟩ xs news hx hy hown hs.1 (fun j u hu => hs.cells rfl j u hu) h1 h63 hbytes hbase h
end
set_option maxHeartbeats 6400000 in
set_option maxRecDepth 100000 in
theorem small_calls (n : Nat) (hn : n ≤ 3) (w : World) : Calls Tryz.prog 33 #[.int .i64 n] w fun e w' => ∃ v, e = .returned v ∧ w'.ownsRow w.heap.size 25 2 v (smallP n).length (psP (smallP n)) ∧ Ext w w' := by
  have CR := Lib.hid (fun k (h : k ≤ 4) W => reducedPairs_calls k h W)
  have EQ : Hid ((List.range (n + 1)).flatMap prs = smallP n) := rfl
  have nb : (n : Int) ≤ 3 := by omega
  go_enter Tryz.func33, Tryz.ntmps33
  go_wp2_with fail
  go_loopw [7, 3] (fun i v wr => ∃ k : Nat, k ≤ n + 1 ∧ i = .int .i64 k ∧ Hid (wr.ownsRow w.heap.size 25 2 v ((List.range k).flatMap prs).length (psP ((List.range k).flatMap prs))) ∧ Hid (Ext w wr)) (fun i _ _ => n + 1 - (intOf i).toNat)
  case atStart => exact ⟨0, Nat.zero_le _, rfl, World.ownsRow_nil _ _ _ _, Ext.refl _⟩
  case round =>
    obtain ⟨k, hk, rfl, HO, HX⟩ := hrel
    generalize wr = wk at *
    by_cases hlt : k < n + 1
    · have k0 : (0 : Int) ≤ k := by omega
      have k1 : (k : Int) < (n : Int) + 1 := by omega
      have ST := Lib.hid (smallP_step k)
      have L1 := Lib.hid (smallP_le k (by omega))
      have L2 := Lib.hid (prs_le k (by omega))
      have C1 := Lib.hid (CR.out k (by omega))
      have K4 : Hid (k ≤ 4) := by show _ ≤ _; omega
      generalize (List.range k).flatMap prs = P at *
      generalize prs k = R at *
      go_wp2_with fail
      refine (C1.out _).mono ?_
      rintro e w1 ⟨v1, rfl, o1, x1⟩
      have O1 := row_ext HO.out x1
      have X1 := HX.out.trans x1
      have B1 := Lib.hid X1.size
      have pl : P.length ≤ 784 ∧ R.length ≤ 196 := by have := L1.out; have := L2.out; have := K4.out; omega
      go_wp2_with (at_builtin; refine wpList_appRow rfl (.tmp 10) (.tmp 12) 28 rfl w.heap.size 25 _ 2 32 Tryz.underlying28 infoPr rfl (by omega) _ _ P.length R.length _ _ _ rfl rfl O1 o1 (psP_one _) (by unfold maxLen; omega) (by omega) B1.out ?_; intro v4 w4 o4 g4 q4)
      have X4 := Lib.hid (X1.grown g4 (fun k hk => (World.ownsRow.lt O1 k hk).1))
      rw [← psP_append, ← List.length_append, ← ST.out] at o4
      have O4 := Lib.hid o4
      clear o4 g4 q4 O1 o1 X1 x1
      go_wp2_with fail
      exact ⟨⟨k + 1, by omega, by go_num, O4.out, X4.out⟩, by simp [intOf]; omega⟩
    · have k1 : (n : Int) + 1 ≤ k := by omega
      obtain rfl : k = n + 1 := by omega
      have O5 := HO.out
      rw [EQ.out] at O5
      have O5 := Lib.hid O5
      go_wp2_with fail
      go_ret
      exact ⟨_, rfl, O5.out, HX.out⟩
end Go.Proofs.YtdcipaaclpedhaaGreat.N
namespace Go.Proofs.YtdcipaaclpedhaaGreat.N
open Go.RowKit
set_option maxHeartbeats 3200000 in
theorem implCR_yes (n : Nat) (hn : n ≤ 4) (w : World) : Calls Tryz.prog 21 #[.int .i64 n] w fun e w' => e = .returned (.tuple #[.int .i64 ((prs n).length : Nat), .bool true]) ∧ Ext w w' := by
  have CR := Lib.hid (reducedPairs_calls n hn)
  have h1 : ¬ ((n : Int) < 0) := by omega
  have h2 : ¬ ((4 : Int) < n) := by omega
  have h3 : (n : Int) ≤ 4 := by omega
  go_enter Tryz.func21, Tryz.ntmps21
  go_wp2_with fail
  refine (CR.out _).mono ?_
  rintro e w1 ⟨v, rfl, o, x⟩
  obtain ⟨A, c, rfl⟩ := row_form o
  have X := Lib.hid x
  clear o x
  go_wp2_with fail
  go_ret2
  exact ⟨rfl, X.out⟩
set_option maxHeartbeats 3200000 in
theorem implCR_no (n : Int) (hn : ¬ (0 ≤ n ∧ n ≤ 4)) (w : World) : Calls Tryz.prog 21 #[.int .i64 n] w fun e w' => e = .returned (.tuple #[.int .i64 0, .bool false]) ∧ Ext w w' := by
  by_cases h0 : n < 0
  · clear hn
    go_enter Tryz.func21, Tryz.ntmps21
    go_wp2_with fail
    go_ret2
    exact ⟨rfl, Ext.refl _⟩
  · have h1 : 4 < n := by omega
    have h2 : 0 ≤ n := by omega
    clear hn
    go_enter Tryz.func21, Tryz.ntmps21
    go_wp2_with fail
    go_ret2
    exact ⟨rfl, Ext.refl _⟩
end Go.Proofs.YtdcipaaclpedhaaGreat.N
