import Derived.Test.YtpmmajfdcicjiaaProg
import Derived.Shelf.SlSortCmp.Whole1
import Derived.Test.YtpmmajfdcicjiaaG1RFnRotationsMade
import Derived.Test.YtpmmajfdcicjiaaG2RFnRotationsMade
import Derived.Sort.Grow
import Derived.Sort.Row
/- slices.SortFunc at pointers to nodes: what the shelf's contract asks of this program (printed by mk/lay.py). -/
namespace Go.Proofs.Ytpmmajfdcicjiaa.N
open Go.Shelf Go.RowKit

def sortNode_ren : Go.Shelf.Ren := ⟨fun
  | 6 => 167 | 15 => 195 | 14 => 194 | 28 => 213 | 29 => 214 | 20 => 205 | 21 => 206 | 22 => 207 | 23 => 208 | 24 => 209 | 25 => 210 | 26 => 211 | 27 => 212 | 46 => 215 | 47 => 216 | 48 => 217 | 49 => 218 | 50 => 219 | 57 => 220
  | n => n, fun
  | 22 => 122 | 24 => 91 | 25 => 171 | 3 => 3 | 39 => 178 | 0 => 0 | 53 => 187 | 55 => 86 | 4 => 4 | 46 => 192 | 45 => 191 | 50 => 38 | 5 => 5 | 9 => 9 | 66 => 197 | 70 => 201 | 76 => 203 | 77 => 139
  | n => n, fun
 
  | n => n⟩
theorem sortNode : Go.Proofs.SlLaysF.n6 Try.prog sortNode_ren := {
  mixed := by kernel_rfl,
  f6 := ⟨Try.f167.name, by decide, Try.func167.trans (congrArg some (by kernel_rfl))⟩,
  f14 := ⟨Try.f194.name, by decide, Try.func194.trans (congrArg some (by kernel_rfl))⟩,
  f15 := Try.func195.trans (congrArg some (by kernel_rfl)),
  f20 := ⟨Try.f205.name, by decide, Try.func205.trans (congrArg some (by kernel_rfl))⟩,
  f21 := ⟨Try.f206.name, by decide, Try.func206.trans (congrArg some (by kernel_rfl))⟩,
  f22 := ⟨Try.f207.name, by decide, Try.func207.trans (congrArg some (by kernel_rfl))⟩,
  f23 := ⟨Try.f208.name, by decide, Try.func208.trans (congrArg some (by kernel_rfl))⟩,
  f24 := ⟨Try.f209.name, by decide, Try.func209.trans (congrArg some (by kernel_rfl))⟩,
  f25 := ⟨Try.f210.name, by decide, Try.func210.trans (congrArg some (by kernel_rfl))⟩,
  f26 := ⟨Try.f211.name, by decide, Try.func211.trans (congrArg some (by kernel_rfl))⟩,
  f27 := ⟨Try.f212.name, by decide, Try.func212.trans (congrArg some (by kernel_rfl))⟩,
  f28 := Try.func213.trans (congrArg some (by kernel_rfl)),
  f29 := Try.func214.trans (congrArg some (by kernel_rfl)),
  f46 := ⟨Try.f215.name, by decide, Try.func215.trans (congrArg some (by kernel_rfl))⟩,
  f47 := Try.func216.trans (congrArg some (by kernel_rfl)),
  f48 := Try.func217.trans (congrArg some (by kernel_rfl)),
  f49 := ⟨Try.f218.name, by decide, Try.func218.trans (congrArg some (by kernel_rfl))⟩,
  f50 := ⟨Try.f219.name, by decide, Try.func219.trans (congrArg some (by kernel_rfl))⟩,
  f57 := ⟨Try.f220.name, by decide, Try.func220.trans (congrArg some (by kernel_rfl))⟩,
  t0 := Try.underlying0,
  a0 := Try.isAgg0,
  z0 := Try.sizeOf0,
  v0 := Try.zeroValue0,
  t3 := Try.underlying3,
  a3 := Try.isAgg3,
  z3 := Try.sizeOf3,
  v3 := Try.zeroValue3,
  t4 := Try.underlying4,
  a4 := Try.isAgg4,
  z4 := Try.sizeOf4,
  v4 := Try.zeroValue4,
  t5 := Try.underlying5,
  a5 := Try.isAgg5,
  z5 := Try.sizeOf5,
  v5 := Try.zeroValue5,
  t9 := Try.underlying9,
  a9 := Try.isAgg9,
  z9 := Try.sizeOf9,
  v9 := Try.zeroValue9,
  t22 := Try.underlying122,
  a22 := Try.isAgg122,
  z22 := Try.sizeOf122,
  v22 := Try.zeroValue122,
  a24 := Try.isAgg91,
  z24 := Try.sizeOf91,
  t25 := Try.underlying171,
  a25 := Try.isAgg171,
  z25 := Try.sizeOf171,
  v25 := Try.zeroValue171,
  t39 := Try.underlying178,
  a39 := Try.isAgg178,
  z39 := Try.sizeOf178,
  v39 := Try.zeroValue178,
  t45 := Try.underlying191,
  a45 := Try.isAgg191,
  z45 := Try.sizeOf191,
  v45 := Try.zeroValue191,
  t46 := Try.underlying192,
  a46 := Try.isAgg192,
  z46 := Try.sizeOf192,
  v46 := Try.zeroValue192,
  t50 := Try.underlying38,
  a50 := Try.isAgg38,
  z50 := Try.sizeOf38,
  v50 := Try.zeroValue38,
  t53 := Try.underlying187,
  a53 := Try.isAgg187,
  z53 := Try.sizeOf187,
  v53 := Try.zeroValue187,
  t55 := Try.underlying86,
  a55 := Try.isAgg86,
  z55 := Try.sizeOf86,
  v55 := Try.zeroValue86,
  t66 := Try.underlying197,
  a66 := Try.isAgg197,
  z66 := Try.sizeOf197,
  v66 := Try.zeroValue197,
  t70 := Try.underlying201,
  a70 := Try.isAgg201,
  z70 := Try.sizeOf201,
  v70 := Try.zeroValue201,
  t76 := Try.underlying203,
  a76 := Try.isAgg203,
  z76 := Try.sizeOf203,
  v76 := Try.zeroValue203,
  t77 := Try.underlying139,
  a77 := Try.isAgg139,
  z77 := Try.sizeOf139,
  v77 := Try.zeroValue139 }
theorem sortNode_f : sortNode_ren.f 6 = 167 := rfl
end Go.Proofs.Ytpmmajfdcicjiaa.N
/- Rows and sorted rows, whatever the elements. -/
namespace Go.Proofs.Ytpmmajfdcicjiaa.N
open Go.RowKit Go.Sort
set_option linter.unusedVariables false
set_option linter.unusedSimpArgs false

section
variable {α : Type} [Inhabited α] (enc : α → Value)
theorem grownBy_sortedE {w : World} {g n : Nat} {os : Array Obj} (d : Array α) : w.grownBy (grow (putRow enc (Sort.ahead w n) g 0 d) os) (some g) := by
  refine ⟨rfl, rfl, rfl, by simp, fun k hk hne => ?_⟩
  rw [heap_grow_old _ _ (by simpa using hk)]
  have : g ≠ k := fun e => hne (by rw [e])
  simp [putRow, mapBlock, Sort.ahead, Array.getElem?_modify, this]
theorem heap_sortedE {w : World} {g n : Nat} {os : Array Obj} {cur : Array Value} {e : TypeId} {fr : Nat × Nat} (d : Array α) (hb : w.heap[g]? = some (.cells cur e fr)) :
    (grow (putRow enc (Sort.ahead w n) g 0 d) os).heap[g]? = some (.cells (putCells enc 0 d cur) e fr) := by
  have hg : g < w.heap.size := (Array.getElem?_eq_some_iff.1 hb).1
  rw [heap_grow_old _ _ (by simpa using hg)]
  simp [putRow, mapBlock, Sort.ahead, Array.getElem?_modify, hb, onCells]
theorem take_putCellsE (cur : Array Value) (ts : Array α) (h : ts.size ≤ cur.size) : (putCells enc 0 ts cur).toList.take ts.size = ts.toList.map enc := by
  apply List.ext_getElem?
  intro j
  by_cases hj : j < ts.size
  · rw [List.getElem?_take_of_lt hj, Array.getElem?_toList]
    simp [putCells, hj, show j < cur.size by omega]
  · rw [List.getElem?_take_eq_none (by omega), List.getElem?_eq_none (by simp; omega)]
theorem holdsE {w : World} {g : Nat} {cur : Array Value} {e : TypeId} {ss : Array α} (hb : w.heap[g]? = some (.cells cur e (0, 0))) (ht : cur.toList.take ss.size = ss.toList.map enc) : Holds enc w g 0 ss := by
  intro j hj
  refine ⟨?_, by simp [World.frozen?, hb]⟩
  have h1 : (cur.toList.take ss.size)[j]? = (ss.toList.map enc)[j]? := by rw [ht]
  rw [List.getElem?_take_of_lt hj] at h1
  simp only [World.cell?, hb, Nat.zero_add]
  simp only [Option.isSome_none, Bool.false_eq_true, if_false]
  rw [← Array.getElem?_toList, h1]
  simp [hj]
end
end Go.Proofs.Ytpmmajfdcicjiaa.N
