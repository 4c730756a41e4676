import Derived.Test.YtfjhecilkeikiaaBa
import Derived.Test.YtfjhecilkeikiaaPu
import Derived.Test.YtfjhecilkeikiaaSl
import Derived.Test.YtfjhecilkeikiaaProg
import Derived.Test.YtfjhecilkeikiaaWl
import Derived.Test.YtfjhecilkeikiaaWp
import Derived.Test.YtfjhecilkeikiaaT3
import Derived.Test.YtfjhecilkeikiaaTn
import Derived.Test.YtfjhecilkeikiaaTp
import Derived.Test.YtfjhecilkeikiaaTq
import Derived.Test.YtfjhecilkeikiaaTu
import Derived.Test.YtfjhecilkeikiaaPp
import Derived.Test.YtfjhecilkeikiaaPn
import Derived.Test.YtfjhecilkeikiaaSr
import Derived.Test.YtfjhecilkeikiaaQl
import Derived.Test.YtfjhecilkeikiaaPt
import Derived.Test.YtfjhecilkeikiaaQp
import Derived.Test.YtfjhecilkeikiaaQt
import Derived.Test.YtfjhecilkeikiaaLm
import Derived.Test.YtfjhecilkeikiaaSe
import Derived.Shelf.SlSortCmp.WholeK
import Derived.Shelf.Small.Strs
import Derived.Deep.LoopGhost
import Derived.Deep.RegionHeld3
import Derived.Deep.QuietTactic
/- The reduced pairs with so many carets, the program's. -/
namespace Go.Proofs.Ytfjhecilkeikiaa.N
open Go.RowKit Go.Sort Go.Shelf
set_option linter.unusedVariables false
set_option linter.unusedSimpArgs false

def cmpRen : Go.Shelf.Ren := ⟨fun
  | 106 => 72 | 213 => 103 | 265 => 137
  | n => n, fun
  | n => n, fun
  | n => n⟩
theorem strCmp : Go.Proofs.Lays.n106 Try.prog cmpRen := {
  mixed := by kernel_rfl,
  f106 := Try.func72.trans (congrArg some (by kernel_rfl)),
  f213 := Try.func103.trans (congrArg some (by kernel_rfl)),
  f265 := Try.func137.trans (congrArg some (by kernel_rfl)),
  t3 := Try.underlying3, a3 := Try.isAgg3, z3 := Try.sizeOf3, v3 := Try.zeroValue3,
  t9 := Try.underlying9, a9 := Try.isAgg9, z9 := Try.sizeOf9, v9 := Try.zeroValue9 }
theorem cmp_lt' : ∀ a b : List UInt8, Go.Lib.compareBytes a b < 0 ↔ Op.bytesLess a b = true
  | [], [] => by simp [Go.Lib.compareBytes, Op.bytesLess]
  | [], _ :: _ => by simp [Go.Lib.compareBytes, Op.bytesLess]
  | _ :: _, [] => by simp [Go.Lib.compareBytes, Op.bytesLess]
  | a :: xs, b :: ys => by
    by_cases h1 : a < b
    · simp [Go.Lib.compareBytes, Op.bytesLess, h1]
    · by_cases h2 : b < a
      · have h3 : ¬ a = b := fun h => by subst h; exact h1 h2
        simp [Go.Lib.compareBytes, Op.bytesLess, h1, h2, h3]
      · have h3 : a = b := UInt8.le_antisymm (UInt8.not_lt.1 h2) (UInt8.not_lt.1 h1)
        subst h3
        rw [Go.Lib.compareBytes, if_neg h1, if_neg h1, cmp_lt' xs ys]
        simp [Op.bytesLess, h1]
theorem cmp_lt (a b : List UInt8) : decide (Go.Lib.compareBytes a b < 0) = Op.bytesLess a b := by
  rw [Bool.eq_iff_iff, decide_eq_true_iff]; exact cmp_lt' a b
abbrev PairIn : Type := { p : TP // p.1.carets ≤ 1000 ∧ p.2.carets ≤ 1000 }
instance : Inhabited PairIn := ⟨⟨(.leaf, .leaf), by simp [Tr.carets]⟩⟩
def encP (x : PairIn) : List Value := [.string (tx x.1.1), .string (tx x.1.2)]
def cfP (x y : PairIn) : Int := Go.Lib.compareBytes (ptx x.1).data.toList (ptx y.1).data.toList
theorem ltP2 (x y : PairIn) : ltOf cfP x y = blt (ptx x.1) (ptx y.1) := by
  unfold ltOf cfP blt
  rw [cmp_lt, ByteArray.toList_eq, ByteArray.toList_eq]
theorem swoP : SWO (ltOf cfP) where
  irrefl x := by rw [ltP2]; exact blt_irrefl _
  trans x y z h1 h2 := by rw [ltP2] at *; exact blt_trans h1 h2
  ntrans x y z h1 h2 := by rw [ltP2] at *; exact blt_ntrans h1 h2
set_option maxHeartbeats 3200000 in
theorem cmpPair_calls (x y : PairIn) (W : World) :
    Calls Try.prog 71 #[.agg #[.string (tx x.1.1), .string (tx x.1.2)], .agg #[.string (tx y.1.1), .string (tx y.1.2)]] W fun e w' => e = .returned (.int .i64 (cfP x y)) ∧ ∃ q os', w' = grow (W.drewN q) os' := by
  have hc := Lib.hid (fun W' => Any.strings_Compare strCmp (ptx x.1) (ptx y.1) W')
  change Hid (∀ W', Calls Try.prog 72 _ _ _) at hc
  have E1 : Hid ((tx x.1.1 ++ (⟨#[62]⟩ : ByteArray)) ++ tx x.1.2 = ptx x.1) := ptx_eq x.1
  have E2 : Hid ((tx y.1.1 ++ (⟨#[62]⟩ : ByteArray)) ++ tx y.1.2 = ptx y.1) := ptx_eq y.1
  have s1 : (tx x.1.1).size ≤ 3000000001 := by have := x.2.1; have : (tx x.1.1).size = 3 * x.1.1.carets + 1 := Tr.txt_length _; omega
  have s2 : (tx x.1.2).size ≤ 3000000001 := by have := x.2.2; have : (tx x.1.2).size = 3 * x.1.2.carets + 1 := Tr.txt_length _; omega
  have s3 : (tx y.1.1).size ≤ 3000000001 := by have := y.2.1; have : (tx y.1.1).size = 3 * y.1.1.carets + 1 := Tr.txt_length _; omega
  have s4 : (tx y.1.2).size ≤ 3000000001 := by have := y.2.2; have : (tx y.1.2).size = 3 * y.1.2.carets + 1 := Tr.txt_length _; omega
  have hf : Hid (cfP x y = Go.Lib.compareBytes (ptx x.1).data.toList (ptx y.1).data.toList) := rfl
  rw [hf.out]
  clear hf
  generalize Go.Lib.compareBytes (ptx x.1).data.toList (ptx y.1).data.toList = r at *
  generalize ptx x.1 = z1 at *
  generalize ptx y.1 = z2 at *
  generalize tx x.1.1 = a1 at *
  generalize tx x.1.2 = a2 at *
  generalize tx y.1.1 = b1 at *
  generalize tx y.1.2 = b2 at *
  go_enter Try.func71, Try.ntmps71
  go_wp2_with fail
  rw [E1.out, E2.out]
  refine (hc.out _).mono ?_
  rintro e w' ⟨rfl, rfl⟩
  go_wp2_with fail
  go_ret
  exact ⟨rfl, 0, _, by rw [alloc_eq_grow, alloc_eq_grow, grow_grow]; rfl⟩

theorem flat_psP (d : Array PairIn) : (flatK encP 2 d).toList = psP (d.toList.map fun x => x.1) := by
  apply List.ext_getElem?
  intro t
  by_cases h : t < d.size * 2
  · have hq : t / 2 < d.size := by omega
    have e1 : (d.toList.map fun x => x.1)[t / 2]? = some d[t / 2].1 := by simp [hq]
    obtain ⟨g0, g1⟩ := psP_get _ _ _ e1
    have e2 : (flatK encP 2 d).toList[t]? = some ((encP d[t / 2]!)[t % 2]!) := by
      rw [Array.getElem?_toList, ← get_flatK encP 2 d t h, getElem?_pos _ t (by rw [size_flatK]; exact h), getElem!_pos _ t (by rw [size_flatK]; exact h)]
    rw [e2, getElem!_pos d (t / 2) hq]
    rcases Nat.mod_two_eq_zero_or_one t with h2 | h2
    · have h3 : t / 2 * 2 = t := by omega
      rw [h3] at g0
      rw [g0, h2]; rfl
    · have h3 : t / 2 * 2 + 1 = t := by omega
      rw [h3] at g1
      rw [g1, h2]; rfl
  · rw [List.getElem?_eq_none (by simp; omega), List.getElem?_eq_none (by rw [psP_length, List.length_map, Array.length_toList]; omega)]
set_option maxHeartbeats 3200000 in
theorem insSortP_none (fv : Value) (w : World) :
    Calls Try.prog 129 #[.slice none 0 0, .int .i64 0, .int .i64 0, fv] w fun e w' => e = .returned (.tuple #[]) ∧ w' = w := by
  go_enter Try.func129, Try.ntmps129
  go_wp2_with fail
  refine wp_loop_rounds 1 ?_
  rw [rounds_succ]
  go_wp2_with fail
  go_end0
  exact ⟨rfl, rfl⟩
set_option maxHeartbeats 3200000 in
theorem pdqP_none (lim : Int) (fv : Value) (w : World) :
    Calls Try.prog 102 #[.slice none 0 0, .int .i64 0, .int .i64 0, .int .i64 lim, fv] w fun e w' => e = .returned (.tuple #[]) ∧ w' = w := by
  have C1 := Lib.hid (fun W => insSortP_none fv W)
  go_enter Try.func102, Try.ntmps102
  go_wp2_with fail
  refine wp_loop_rounds 1 ?_
  rw [rounds_succ]
  go_wp2_with fail
  refine (C1.out _).mono ?_
  rintro e w1 ⟨rfl, rfl⟩
  go_wp2_with fail
  (try simp only [Exit.inBlock, Exit.then]); refine bodyPost_ret (results_none rfl _ _ _) rfl ?_
  exact ⟨rfl, rfl⟩
set_option maxHeartbeats 3200000 in
theorem sortP_none (fv : Value) (w : World) :
    Calls Try.prog 70 #[.slice none 0 0, fv] w fun e w' => e = .returned (.tuple #[]) ∧ w' = w := by
  have C1 := Lib.hid (fun l W => pdqP_none l fv W)
  have C2 : Hid (∀ W, Calls Try.prog 95 #[.int .u64 0] W fun e w' => e = .returned (.int .i64 (Lib.bitLen 0 : Nat)) ∧ w' = W) := fun W =>
    Any.bits_Len (SlLaysF0.n15.bits (P := Try.prog) (ρ := sortPair_ren) { sortPair with }) 0 W (by omega) (by omega)
  generalize (Lib.bitLen 0) = z at *
  go_enter Try.func70, Try.ntmps70
  go_wp2_with fail
  refine (C2.out _).mono ?_
  rintro e w1 ⟨rfl, rfl⟩
  go_wp2_with fail
  refine (C1.out _ _).mono ?_
  rintro e w1 ⟨rfl, rfl⟩
  go_wp2_with fail
  go_end0
  exact ⟨rfl, rfl⟩
theorem psIn (l : List TP) (h : ∀ p ∈ l, p.1.carets ≤ 1000 ∧ p.2.carets ≤ 1000) : ∃ d : List PairIn, d.map (fun x => x.1) = l := by
  induction l with
  | nil => exact ⟨[], rfl⟩
  | cons p l ih =>
    obtain ⟨d, hd⟩ := ih (fun q hq => h q (List.mem_cons_of_mem _ hq))
    exact ⟨⟨p, h p List.mem_cons_self⟩ :: d, by simp [hd]⟩
set_option maxHeartbeats 3200000 in
theorem sortPairs_calls (w : World) (l : List TP) (base : Nat) (v : Value) (hl : l.length ≤ 100000) (hc : ∀ p ∈ l, p.1.carets ≤ 1000 ∧ p.2.carets ≤ 1000) (ho : w.ownsRow base 28 2 v l.length (psP l)) :
    Calls Try.prog 70 #[v, .func (.func 71) #[] #[]] w fun e w' => e = .returned (.tuple #[]) ∧ w'.ownsRow base 28 2 v l.length (psP (srtP l)) ∧ w.grownBy w' v.ownBlock := by
  rcases ho.2 with ⟨rfl, h0⟩ | ⟨g, cap, cur, rfl, hbase, hb, h1, h2, h3, h4⟩
  · refine (sortP_none _ w).mono ?_
    rintro e w' ⟨rfl, rfl⟩
    obtain rfl : l = [] := List.length_eq_zero_iff.1 h0
    exact ⟨rfl, ho, grownBy_refl _ _⟩
  · obtain ⟨d, hd⟩ := psIn l hc
    have hs : d.toArray.size = l.length := by rw [← hd]; simp
    have hf : (flatK encP 2 d.toArray).toList = psP l := by rw [flat_psP]; exact congrArg psP hd
    have hfs : (flatK encP 2 d.toArray).size = l.length * 2 := by rw [size_flatK, hs]
    have hH : HoldsK encP 2 w g 0 d.toArray := by
      unfold HoldsK
      refine holdsE id hb ?_
      rw [hfs, h4, List.map_id, hf]
    have eg : ∀ args w, (callFunc 71 args).run Try.prog w = .ok (.enter 71 args) w := enters_of Try.func71 (by kernel_rfl) rfl
    have hcmp : CmpLays Try.prog 71 #[] encP 2 cfP g 0 d.toArray.size w := fun _ _ _ _ x y => cmpPair_calls x y _
    have C := AnyQ.slices_SortFunc sortPair 2 Try.isAgg28 Try.sizeOf28 encP (fun _ => rfl) (fun x v hv => by simp [encP] at hv; rcases hv with rfl | rfl <;> rfl) cfP swoP 71 #[] g 0 cap d.toArray w eg hcmp hH (Array.getElem?_eq_some_iff.1 hb).1 (by rw [hs]; omega)
    rw [hs] at C
    refine C.mono ?_
    rintro e w' ⟨rfl, d', n, os, ⟨hds, _, hp⟩, hso, rfl⟩
    have hds : d'.size = l.length := by omega
    rw [Array.extract_eq_self_of_le (by omega), Array.extract_eq_self_of_le (by omega)] at hp
    have hp' : d'.toList.Perm d := hp
    have e1 : d'.toList.map (fun x => x.1) = srtP l := by
      refine srtP_of ?_ ?_
      · rw [← hd]; exact hp'.map _
      · unfold Srt
        rw [List.pairwise_iff_getElem]
        intro i j hi hj hij
        simp only [List.length_map, Array.length_toList] at hi hj
        have := hso i j (Nat.zero_le _) hij (by omega)
        rw [ltP2, getElem!_pos d' i (by omega), getElem!_pos d' j (by omega)] at this
        simpa using this
    have e2 : (flatK encP 2 d').toList = psP (srtP l) := by rw [flat_psP, e1]
    have e3 : (flatK encP 2 d').size = l.length * 2 := by rw [size_flatK, hds]
    refine ⟨rfl, ?_, grownBy_sortedE id (flatK encP 2 d')⟩
    refine ⟨?_, .inr ⟨g, cap, _, rfl, hbase, heap_sortedE id (flatK encP 2 d') hb, h1, h2, by simp [putCells, h3], ?_⟩⟩
    · rw [psP_length, (srtP_perm l).length_eq]
    · rw [← e3, take_putCellsE id cur (flatK encP 2 d') (by rw [e3, h3]; exact Nat.mul_le_mul_right 2 h1), List.map_id, e2]
end Go.Proofs.Ytfjhecilkeikiaa.N
