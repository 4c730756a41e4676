import Derived.Test.YtfkjjmmoipcddaaBa
import Derived.Test.YtfkjjmmoipcddaaPu
import Derived.Test.YtfkjjmmoipcddaaSl
import Derived.Test.YtfkjjmmoipcddaaProg
import Derived.Test.YtfkjjmmoipcddaaTn
import Derived.Test.YtfkjjmmoipcddaaT4
import Derived.Test.YtfkjjmmoipcddaaWl
import Derived.Test.YtfkjjmmoipcddaaPn
import Derived.Test.YtfkjjmmoipcddaaLy
import Derived.Shelf.SlSortCmp.Whole1
import Derived.Deep.LoopGhost
/- slices.SortFunc at nodes, by their texts: the program's. -/
namespace Go.Proofs.Ytfkjjmmoipcddaa.N
open Go.RowKit Go.Sort Go.Shelf
set_option linter.unusedVariables false
set_option linter.unusedSimpArgs false

section
variable {α : Type} [Inhabited α] (enc : α → Value)
theorem grownBy_sortedE {w : World} {g n : Nat} {os : Array Obj} (d : Array α) : w.grownBy (grow (putRow enc (Sort.ahead w n) g 0 d) os) (some g) := by
  refine ⟨rfl, rfl, rfl, by simp, fun k hk hne => ?_⟩
  rw [heap_grow_old _ _ (by simpa using hk)]
  have : g ≠ k := fun e => hne (by rw [e])
  simp [putRow, mapBlock, Sort.ahead, Array.getElem?_modify, this]
theorem heap_sortedE {w : World} {g n : Nat} {os : Array Obj} {cur : Array Value} {e : TypeId} {fr : Nat × Nat} (d : Array α) (hb : w.heap[g]? = some (.cells cur e fr)) :
    (grow (putRow enc (Sort.ahead w n) g 0 d) os).heap[g]? = some (.cells (putCells enc 0 d cur) e fr) := by
  have hg : g < w.heap.size := (Array.getElem?_eq_some_iff.1 hb).1
  rw [heap_grow_old _ _ (by simpa using hg)]
  simp [putRow, mapBlock, Sort.ahead, Array.getElem?_modify, hb, onCells]
theorem take_putCellsE (cur : Array Value) (ts : Array α) (h : ts.size ≤ cur.size) : (putCells enc 0 ts cur).toList.take ts.size = ts.toList.map enc := by
  apply List.ext_getElem?
  intro j
  by_cases hj : j < ts.size
  · rw [List.getElem?_take_of_lt hj, Array.getElem?_toList]
    simp [putCells, hj, show j < cur.size by omega]
  · rw [List.getElem?_take_eq_none (by omega), List.getElem?_eq_none (by simp; omega)]
theorem holdsE {w : World} {g : Nat} {cur : Array Value} {e : TypeId} {ss : Array α} (hb : w.heap[g]? = some (.cells cur e (0, 0))) (ht : cur.toList.take ss.size = ss.toList.map enc) : Holds enc w g 0 ss := by
  intro j hj
  refine ⟨?_, by simp [World.frozen?, hb]⟩
  have h1 : (cur.toList.take ss.size)[j]? = (ss.toList.map enc)[j]? := by rw [ht]
  rw [List.getElem?_take_of_lt hj] at h1
  simp only [World.cell?, hb, Nat.zero_add]
  simp only [Option.isSome_none, Bool.false_eq_true, if_false]
  rw [← Array.getElem?_toList, h1]
  simp [hj]
end

set_option maxHeartbeats 1600000 in
theorem cmpNode_calls (A B : Tr) (hA : A.carets ≤ 1000) (hB : B.carets ≤ 1000) (pa pb : Option Addr) (w : World) (ra : Rep w A pa) (rb : Rep w B pb) :
    Calls Try.prog 130 #[.pointer pa, .pointer pb] w fun e w' => e = .returned (.int .i64 (if blt (tx A) (tx B) then -1 else 1)) ∧ ∃ q, w' = w.drewN q := by
  have C1 := Lib.hid (text_calls A pa w (by omega) ra)
  have C2 := Lib.hid (fun n => text_calls B pb (w.drewN n) (by omega) (rb.ext ((Ext.refl _).drewN n)))
  unfold blt
  generalize tx A = a at *
  generalize tx B = b at *
  clear ra rb hA hB
  cases hb : Op.bytesLess a.toList b.toList
  all_goals
    go_enter Try.func130, Try.ntmps130
    go_wp2_with fail
    refine (C1.out).mono ?_
    rintro e w1 ⟨rfl, n, rfl⟩
    go_wp2_with fail
    refine (C2.out _).mono ?_
    rintro e w1 ⟨rfl, m, rfl⟩
    go_wp2_with fail
    go_ret
    exact ⟨rfl, n + m, rfl⟩

/-- A pointer and its tree. -/
abbrev NodeIn (w : World) : Type := { x : Option Addr × Tr // Rep w x.2 x.1 ∧ x.2.carets ≤ 1000 }
instance (w : World) : Inhabited (NodeIn w) := ⟨⟨(none, .leaf), rfl, by simp [Tr.carets]⟩⟩
def encN (w : World) (x : NodeIn w) : Value := .pointer x.1.1
def cfN (w : World) (x y : NodeIn w) : Int := if blt (tx x.1.2) (tx y.1.2) then -1 else 1
theorem ltN (w : World) (x y : NodeIn w) : ltOf (cfN w) x y = blt (tx x.1.2) (tx y.1.2) := by
  unfold ltOf cfN
  cases blt (tx x.1.2) (tx y.1.2) <;> rfl
theorem swoN (w : World) : SWO (ltOf (cfN w)) where
  irrefl x := by rw [ltN]; exact blt_irrefl _
  trans x y z h1 h2 := by rw [ltN] at *; exact blt_trans h1 h2
  ntrans x y z h1 h2 := by rw [ltN] at *; exact blt_ntrans h1 h2
theorem nodesOf {w : World} {Ts : List Tr} {ps : List (Option Addr)} (h : Reps w Ts ps) (hc : ∀ T ∈ Ts, T.carets ≤ 1000) : ∃ d : List (NodeIn w), d.map (fun x => x.1.2) = Ts ∧ d.map (fun x => x.1.1) = ps := by
  obtain ⟨hl, hr⟩ := h
  induction Ts generalizing ps with
  | nil =>
    obtain rfl : ps = [] := List.length_eq_zero_iff.1 hl.symm
    exact ⟨[], rfl, rfl⟩
  | cons T Ts ih =>
    cases ps with
    | nil => cases hl
    | cons p ps =>
      obtain ⟨d, h1, h2⟩ := ih (fun U hU => hc U (List.mem_cons_of_mem _ hU)) (by simpa using hl) (fun k U q hU hq => hr (k + 1) U q (by simpa using hU) (by simpa using hq))
      exact ⟨⟨(p, T), hr 0 T p rfl rfl, hc T List.mem_cons_self⟩ :: d, by simp [h1], by simp [h2]⟩
theorem reps_of {w w' : World} (d : List (NodeIn w)) (h : ∀ x : NodeIn w, Rep w' x.1.2 x.1.1) : Reps w' (d.map fun x => x.1.2) (d.map fun x => x.1.1) := by
  refine ⟨by simp, fun k T p h1 h2 => ?_⟩
  rw [List.getElem?_map] at h1 h2
  cases hk : d[k]? with
  | none => rw [hk] at h1; cases h1
  | some x =>
    rw [hk] at h1 h2
    cases h1; cases h2
    exact h x
set_option maxHeartbeats 3200000 in
theorem sort_some (w : World) (d : Array (NodeIn w)) (base g cap : Nat) (hd : d.size ≤ 1000000) (ho : Own w base 76 (.slice (some ⟨g, 0, none⟩) d.size cap) (d.toList.map (encN w))) :
    Calls Try.prog 129 #[.slice (some ⟨g, 0, none⟩) d.size cap, .func (.func 130) #[] #[]] w fun e w' => e = .returned (.tuple #[]) ∧
      ∃ d' : Array (NodeIn w), d'.toList.Perm d.toList ∧ Srt (d'.toList.map fun x => tx x.1.2) ∧ Own w' base 76 (.slice (some ⟨g, 0, none⟩) d.size cap) (d'.toList.map (encN w)) ∧ Reps w' (d'.toList.map fun x => x.1.2) (d'.toList.map fun x => x.1.1) ∧ w.grownBy w' (some g) := by
  have ho' := ho
  rcases ho'.2 with ⟨h0, _⟩ | ⟨g', cap', cur, hv, hbase, hb, h1, h2, h3, h4⟩
  · cases h0
  injection hv with hv1 hv2 hv3
  injection hv1 with hv1
  injection hv1 with hv1
  subst hv1 hv3
  simp only [List.length_map, Array.length_toList, Nat.mul_one] at h1 h3 h4
  have hH : Holds (encN w) w g 0 d := holdsE (encN w) hb (by rw [h4])
  have kept : ∀ (w' : World), w.grownBy w' (some g) → ∀ x : NodeIn w, Rep w' x.1.2 x.1.1 := fun w' hg x => x.2.1.row ho (by decide) hg
  have eg : ∀ args w, (callFunc 130 args).run Try.prog w = .ok (.enter 130 args) w := enters_of Try.func130 (by kernel_rfl) rfl
  have hcmp : CmpReads Try.prog 130 #[] (encN w) (cfN w) g 0 d.size w := fun m os dk hs x y =>
    cmpNode_calls x.1.2 y.1.2 x.2.2 y.2.2 x.1.1 y.1.1 _ (kept _ (grownBy_sortedE (encN w) dk) x) (kept _ (grownBy_sortedE (encN w) dk) y)
  refine (Any.slices_SortFunc sortNode (encN w) (fun _ => rfl) (cfN w) (swoN w) 130 #[] g 0 cap d w eg hcmp.lays hH (Array.getElem?_eq_some_iff.1 hb).1 (by omega)).mono ?_
  rintro e w' ⟨rfl, d', n, os, ⟨hs, _, hp⟩, hso, rfl⟩
  rw [Array.extract_eq_self_of_le (by omega), Array.extract_eq_self_of_le (by omega)] at hp
  refine ⟨rfl, d', hp, ?_, ?_, reps_of _ (kept _ (grownBy_sortedE (encN w) d')), grownBy_sortedE (encN w) d'⟩
  · unfold Srt
    rw [List.pairwise_iff_getElem]
    intro i j hi hj hij
    simp only [List.length_map, Array.length_toList] at hi hj
    have := hso i j (Nat.zero_le _) hij (by omega)
    rw [ltN, getElem!_pos d' i (by omega), getElem!_pos d' j (by omega)] at this
    simpa using this
  · refine ⟨by simp [hs], .inr ⟨g, cap, _, by simp [hs], hbase, heap_sortedE (encN w) d' hb, by simp [hs]; omega, h2, by simp [putCells, h3], ?_⟩⟩
    simp only [List.length_map, Array.length_toList, Nat.mul_one]
    exact take_putCellsE (encN w) cur d' (by omega)
end Go.Proofs.Ytfkjjmmoipcddaa.N
