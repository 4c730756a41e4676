import Derived.Test.YtijnadjgmmednaaXg1
import Derived.Test.YtijnadjgmmednaaXg16
/- A part of the proof: lemmas that later parts use. -/
set_option linter.unusedVariables false
set_option linter.unusedSimpArgs false
namespace Go.Proofs.Ytijnadjgmmednaa.N
open Go.RowKit Go.Sort Go.Shelf
set_option maxHeartbeats 1600000 in
theorem cmpNode_calls (A B : Tr) (hA : A.carets ≤ 1000) (hB : B.carets ≤ 1000) (pa pb : Option Addr) (w : World) (ra : Rep w A pa) (rb : Rep w B pb) :
    Calls Try.prog 148 #[.pointer pa, .pointer pb] w fun e w' => e = .returned (.int .i64 (if blt (tx A) (tx B) then -1 else 1)) ∧ ∃ q, w' = w.drewN q := by
  have C1 := Lib.hid (text_calls A pa w (by omega) ra)
  have C2 := Lib.hid (fun n => text_calls B pb (w.drewN n) (by omega) (rb.ext ((Ext.refl _).drewN n)))
  unfold blt
  generalize tx A = a at *
  generalize tx B = b at *
  clear ra rb hA hB
  cases hb : Op.bytesLess a.toList b.toList
  all_goals
    go_enter Try.func148, Try.ntmps148
    go_wp2_with fail
    refine (C1.out).mono ?_
    rintro e w1 ⟨rfl, n, rfl⟩
    go_wp2_with fail
    refine (C2.out _).mono ?_
    rintro e w1 ⟨rfl, m, rfl⟩
    go_wp2_with fail
    go_ret
    exact ⟨rfl, n + m, rfl⟩
abbrev NodeIn (w : World) : Type := { x : Option Addr × Tr // Rep w x.2 x.1 ∧ x.2.carets ≤ 1000 }
instance (w : World) : Inhabited (NodeIn w) := ⟨⟨(none, .leaf), rfl, by simp [Tr.carets]⟩⟩
def encN (w : World) (x : NodeIn w) : Value := .pointer x.1.1
def cfN (w : World) (x y : NodeIn w) : Int := if blt (tx x.1.2) (tx y.1.2) then -1 else 1
theorem ltN (w : World) (x y : NodeIn w) : ltOf (cfN w) x y = blt (tx x.1.2) (tx y.1.2) := by
  unfold ltOf cfN
  cases blt (tx x.1.2) (tx y.1.2) <;> rfl
theorem swoN (w : World) : SWO (ltOf (cfN w)) where
  irrefl x := by rw [ltN]; exact blt_irrefl _
  trans x y z h1 h2 := by rw [ltN] at *; exact blt_trans h1 h2
  ntrans x y z h1 h2 := by rw [ltN] at *; exact blt_ntrans h1 h2
theorem nodesOf {w : World} {Ts : List Tr} {ps : List (Option Addr)} (h : Reps w Ts ps) (hc : ∀ T ∈ Ts, T.carets ≤ 1000) : ∃ d : List (NodeIn w), d.map (fun x => x.1.2) = Ts ∧ d.map (fun x => x.1.1) = ps := by
  obtain ⟨hl, hr⟩ := h
  induction Ts generalizing ps with
  | nil =>
    obtain rfl : ps = [] := List.length_eq_zero_iff.1 hl.symm
    exact ⟨[], rfl, rfl⟩
  | cons T Ts ih =>
    cases ps with
    | nil => cases hl
    | cons p ps =>
      obtain ⟨d, h1, h2⟩ := ih (fun U hU => hc U (List.mem_cons_of_mem _ hU)) (by simpa using hl) (fun k U q hU hq => hr (k + 1) U q (by simpa using hU) (by simpa using hq))
      exact ⟨⟨(p, T), hr 0 T p rfl rfl, hc T List.mem_cons_self⟩ :: d, by simp [h1], by simp [h2]⟩
theorem reps_of {w w' : World} (d : List (NodeIn w)) (h : ∀ x : NodeIn w, Rep w' x.1.2 x.1.1) : Reps w' (d.map fun x => x.1.2) (d.map fun x => x.1.1) := by
  refine ⟨by simp, fun k T p h1 h2 => ?_⟩
  rw [List.getElem?_map] at h1 h2
  cases hk : d[k]? with
  | none => rw [hk] at h1; cases h1
  | some x =>
    rw [hk] at h1 h2
    cases h1; cases h2
    exact h x
set_option maxHeartbeats 3200000 in
theorem sort_some (w : World) (d : Array (NodeIn w)) (base g cap : Nat) (hd : d.size ≤ 1000000) (ho : Own w base 80 (.slice (some ⟨g, 0, none⟩) d.size cap) (d.toList.map (encN w))) :
    Calls Try.prog 147 #[.slice (some ⟨g, 0, none⟩) d.size cap, .func (.func 148) #[] #[]] w fun e w' => e = .returned (.tuple #[]) ∧
      ∃ d' : Array (NodeIn w), d'.toList.Perm d.toList ∧ Srt (d'.toList.map fun x => tx x.1.2) ∧ Own w' base 80 (.slice (some ⟨g, 0, none⟩) d.size cap) (d'.toList.map (encN w)) ∧ Reps w' (d'.toList.map fun x => x.1.2) (d'.toList.map fun x => x.1.1) ∧ w.grownBy w' (some g) := by
  have ho' := ho
  rcases ho'.2 with ⟨h0, _⟩ | ⟨g', cap', cur, hv, hbase, hb, h1, h2, h3, h4⟩
  · cases h0
  injection hv with hv1 hv2 hv3
  injection hv1 with hv1
  injection hv1 with hv1
  subst hv1 hv3
  simp only [List.length_map, Array.length_toList, Nat.mul_one] at h1 h3 h4
  have hH : Holds (encN w) w g 0 d := holdsE (encN w) hb (by rw [h4])
  have kept : ∀ (w' : World), w.grownBy w' (some g) → ∀ x : NodeIn w, Rep w' x.1.2 x.1.1 := fun w' hg x => x.2.1.row ho (by decide) hg
  have eg : ∀ args w, (callFunc 148 args).run Try.prog w = .ok (.enter 148 args) w := enters_of Try.func148 (by kernel_rfl) rfl
  have hcmp : CmpReads Try.prog 148 #[] (encN w) (cfN w) g 0 d.size w := fun m os dk hs x y =>
    cmpNode_calls x.1.2 y.1.2 x.2.2 y.2.2 x.1.1 y.1.1 _ (kept _ (grownBy_sortedE (encN w) dk) x) (kept _ (grownBy_sortedE (encN w) dk) y)
  refine (Any.slices_SortFunc sortNode (encN w) (fun _ => rfl) (cfN w) (swoN w) 148 #[] g 0 cap d w eg hcmp.lays hH (Array.getElem?_eq_some_iff.1 hb).1 (by omega)).mono ?_
  rintro e w' ⟨rfl, d', n, os, ⟨hs, _, hp⟩, hso, rfl⟩
  rw [Array.extract_eq_self_of_le (by omega), Array.extract_eq_self_of_le (by omega)] at hp
  refine ⟨rfl, d', hp, ?_, ?_, reps_of _ (kept _ (grownBy_sortedE (encN w) d')), grownBy_sortedE (encN w) d'⟩
  · unfold Srt
    rw [List.pairwise_iff_getElem]
    intro i j hi hj hij
    simp only [List.length_map, Array.length_toList] at hi hj
    have := hso i j (Nat.zero_le _) hij (by omega)
    rw [ltN, getElem!_pos d' i (by omega), getElem!_pos d' j (by omega)] at this
    simpa using this
  · refine ⟨by simp [hs], .inr ⟨g, cap, _, by simp [hs], hbase, heap_sortedE (encN w) d' hb, by simp [hs]; omega, h2, by simp [putCells, h3], ?_⟩⟩
    simp only [List.length_map, Array.length_toList, Nat.mul_one]
    exact take_putCellsE (encN w) cur d' (by omega)
end Go.Proofs.Ytijnadjgmmednaa.N
