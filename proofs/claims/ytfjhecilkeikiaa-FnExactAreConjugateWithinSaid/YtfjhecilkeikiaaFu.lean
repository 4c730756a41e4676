import Derived.Test.YtfjhecilkeikiaaBa
import Derived.Test.YtfjhecilkeikiaaPu
import Derived.Test.YtfjhecilkeikiaaSl
import Derived.Test.YtfjhecilkeikiaaProg
import Derived.Test.YtfjhecilkeikiaaTn
import Derived.Test.YtfjhecilkeikiaaTs
import Derived.Test.YtfjhecilkeikiaaPp
import Derived.Test.YtfjhecilkeikiaaPg
import Derived.Test.YtfjhecilkeikiaaPh
import Derived.Test.YtfjhecilkeikiaaWl
import Derived.Test.YtfjhecilkeikiaaTp
import Derived.Test.YtfjhecilkeikiaaTr
import Derived.Test.YtfjhecilkeikiaaTu
import Derived.Test.YtfjhecilkeikiaaTv
import Derived.Test.YtfjhecilkeikiaaTw
import Derived.Test.YtfjhecilkeikiaaTg
import Derived.Test.YtfjhecilkeikiaaTk
import Derived.Test.YtfjhecilkeikiaaCl
import Derived.Test.YtfjhecilkeikiaaAc
import Derived.Test.YtfjhecilkeikiaaAw
import Derived.Test.YtfjhecilkeikiaaRw
import Derived.Test.YtfjhecilkeikiaaPn
import Derived.Test.YtfjhecilkeikiaaPt
import Derived.Deep.LoopGhost
import Derived.Deep.RegionHeld3
import Derived.Deep.QuietTactic
import Derived.StillTailTactics
import Derived.BigQuiet
/- The first conjugator, the program's. -/
namespace Go.Proofs.Ytfjhecilkeikiaa.N
open Go.RowKit
set_option linter.unusedVariables false
set_option linter.unusedSimpArgs false

/-! ### Plain -/
def gF (goal : ByteArray) (s : Option (List Int)) (xs : List Int) (y : Tr × Tr) : Option (List Int) × Bool := if ptx y = goal then (some xs, true) else (s, false)
def fitsA (goal : ByteArray) (y : Tr × Tr) (w : List Int) : Bool := decide (ptx (conjF y w) = goal)
theorem runL_find {α : Type} (F : Int → Option α) (f : Int → Option α → Option α × Bool) (hf : ∀ x, f x none = match F x with | some a => (some a, true) | none => (none, false)) : ∀ l, runL f l none = match l.findSome? F with | some a => (some a, true) | none => (none, false)
  | [] => rfl
  | x :: l => by
    simp only [runL, hf, List.findSome?_cons]
    cases F x with
    | some a => simp
    | none => simp only [Bool.false_eq_true, if_false]; exact runL_find F f hf l
theorem find_map_cons (x : Int) (P : List Int → Bool) : ∀ L : List (List Int), (L.map (x :: ·)).find? P = (L.find? fun w => P (x :: w)).map (x :: ·)
  | [] => rfl
  | w :: L => by
    simp only [List.map_cons, List.find?_cons]
    cases P (x :: w) with
    | true => rfl
    | false => exact find_map_cons x P L
theorem findSome_map {α β : Type} (h : α → β) (F : Int → Option α) : ∀ l : List Int, l.findSome? (fun x => (F x).map h) = (l.findSome? F).map h
  | [] => rfl
  | x :: l => by
    simp only [List.findSome?_cons]
    cases F x with
    | some a => rfl
    | none => exact findSome_map h F l
theorem runW_find (goal : ByteArray) : ∀ (n : Nat) (xs : List Int) (y : Tr × Tr), runW (gF goal) n xs y none = match (allW n).find? (fitsA goal y) with | some w => (some (xs ++ w), true) | none => (none, false)
  | 0, xs, y => by
    have e : fitsA goal y [] = decide (ptx y = goal) := rfl
    simp only [runW, gF, allW, List.find?_cons, List.find?_nil, e]
    by_cases h : ptx y = goal
    · rw [if_pos h, decide_eq_true h]; simp
    · rw [if_neg h, decide_eq_false h]
  | n + 1, xs, y => by
    rw [runW_two, runL_find (fun x => ((allW n).find? (fitsA goal (conj y (letP x)))).map fun w => xs ++ ([x] ++ w))]
    · rw [allW, List.find?_flatMap]
      have e : (fun x => ((allW n).map (x :: ·)).find? (fitsA goal y)) = fun x => (((allW n).find? (fitsA goal (conj y (letP x)))).map fun w => [x] ++ w) := by
        funext x
        rw [find_map_cons]; rfl
      rw [e]
      have e2 : (fun x => ((allW n).find? (fitsA goal (conj y (letP x)))).map fun w => xs ++ ([x] ++ w)) = fun x => ((((allW n).find? (fitsA goal (conj y (letP x)))).map fun w => [x] ++ w)).map fun w => xs ++ w := by
        funext x
        rw [Option.map_map]; rfl
      rw [e2, findSome_map]
      cases lts.findSome? fun x => (((allW n).find? (fitsA goal (conj y (letP x)))).map fun w => [x] ++ w) with
      | some a => rfl
      | none => rfl
    · intro x
      rw [runW_find goal n]
      cases (allW n).find? (fitsA goal (conj y (letP x))) with
      | some w => simp
      | none => rfl
/-- The first conjugator of at most k - 1 letters. -/
def conjugA (p : Tr × Tr) (goal : ByteArray) (n k : Nat) : Option (List Int) := firstW allW (fitsA goal (red p)) n k
def fitsR (p : Tr × Tr) (goal : ByteArray) (w : List Int) : Bool := decide (ptx (conj p (pairW w)) = goal)
theorem find_congr {α : Type} (P Q : α → Bool) : ∀ l : List α, (∀ w ∈ l, P w = Q w) → l.find? P = l.find? Q
  | [], _ => rfl
  | a :: l, h => by
    rw [List.find?_cons, List.find?_cons, h a List.mem_cons_self]
    cases Q a with
    | true => rfl
    | false => exact find_congr P Q l fun w hw => h w (List.mem_cons_of_mem _ hw)
theorem firstW_congr (W : Nat → List (List Int)) (P Q : List Int → Bool) (h : ∀ n, ∀ w ∈ W n, P w = Q w) : ∀ k n, firstW W P n k = firstW W Q n k
  | 0, n => rfl
  | k + 1, n => by
    simp only [firstW]
    rw [find_congr P Q _ (h n)]
    cases (W n).find? Q with
    | some w => rfl
    | none => exact firstW_congr W P Q h k (n + 1)
theorem conjug_eq {p : Tr × Tr} (hp : Bal p) (goal : ByteArray) (k : Nat) : conjugA p goal 0 k = firstW redWd (fitsR p goal) 0 k := by
  rw [first_same (fitsR p goal) (fun v w h => by unfold fitsR; rw [h]) k 0 (fun m hm => absurd hm (Nat.not_lt_zero m))]
  unfold conjugA
  exact firstW_congr _ _ _ (fun n w hw => by unfold fitsA fitsR; rw [conjF_pairW hp (allW_nz hw)]) _ _
theorem firstW_mem (W : Nat → List (List Int)) (P : List Int → Bool) : ∀ (k n : Nat) (w : List Int), firstW W P n k = some w → ∃ m, m < n + k ∧ w ∈ W m
  | 0, n, w, h => by simp [firstW] at h
  | k + 1, n, w, h => by
    simp only [firstW] at h
    cases hf : (W n).find? P with
    | some v =>
      rw [hf] at h
      injection h with h
      subst h
      exact ⟨n, by omega, List.mem_of_find?_eq_some hf⟩
    | none =>
      rw [hf] at h
      obtain ⟨m, hm, hw⟩ := firstW_mem W P k (n + 1) w h
      exact ⟨m, by omega, hw⟩

/-- A list, or none, in a box. -/
def FoundV (w : World) (base : Nat) (v : Value) : Option (List Int) → Prop
  | none => v = .slice none 0 0
  | some xs => Own w base 3 v (ints xs)
/-- The goal's text lies in the box tb, what was found in the box c. -/
def IF (tb c eb : Nat) (goal : ByteArray) (s : Option (List Int)) (w : World) : Prop := w.heap[tb]? = some (.cells #[.string goal] 9) ∧ ∃ v, w.heap[c]? = some (.cells #[v] 25) ∧ FoundV w eb v s
theorem FoundV.ext {w w' : World} {base : Nat} {v : Value} {s : Option (List Int)} (h : FoundV w base v s) (hx : Ext w w') : FoundV w' base v s := by
  cases s with
  | none => exact h
  | some xs => exact Own.ext h hx
theorem IF.ext {tb c eb : Nat} {goal : ByteArray} {s : Option (List Int)} {w w' : World} (h : IF tb c eb goal s w) (hx : Ext w w') : IF tb c eb goal s w' :=
  let ⟨h1, v, h2, h3⟩ := h; ⟨hx.at h1, v, hx.at h2, h3.ext hx⟩
def set1 (w : World) (c : Nat) (v : Value) : World := w.setCell ⟨c, 0, none⟩ v
theorem set1_other {w : World} {c k : Nat} (hk : k ≠ c) (v : Value) : (set1 w c v).heap[k]? = w.heap[k]? := by
  unfold set1
  rw [Below.heap_setCell _ _ _ _ (by exact hk)]
theorem set1_heap {w : World} {c : Nat} {u : Value} {t : TypeId} (h : w.heap[c]? = some (.cells #[u] t)) (v : Value) : (set1 w c v).heap[c]? = some (.cells #[v] t) := heap_setCell_same w c 0 #[u] t v h
theorem one_facts {w : World} {c : Nat} {u : Value} {t : TypeId} (h : w.heap[c]? = some (.cells #[u] t)) : w.cell? ⟨c, 0, none⟩ = some u ∧ w.frozen? ⟨c, 0, none⟩ = false := by
  simp [World.cell?, World.frozen?, h]
theorem set1_tch {c : Nat} {w W : World} (h : Ext w W) (v : Value) : Tch c none w (set1 W c v) := by
  have hs : (set1 W c v).heap.size = W.heap.size := by simp [set1, World.setCell]
  exact ⟨h.os, h.tape, h.output, by rw [hs]; exact h.size, fun k hk hkc _ => (set1_other hkc v).trans (h.block k hk)⟩

set_option maxHeartbeats 6400000 in
set_option maxRecDepth 100000 in
theorem find_cb (goal : ByteArray) (tb c eb : Nat) (htc : tb ≠ c) (w : World) (heb : eb ≤ w.heap.size) (v : Value) (xs : List Int) (y : Tr × Tr) (pa pb : Option Addr) (hI : IF tb c eb goal none w) (hcb : c < eb ∨ True) (hv : Reads w v (ints xs)) (hxl : xs.length ≤ 10) (hy : Bal y) (hc : y.2.carets ≤ 100) (rA : Rep w y.1 pa) (rB : Rep w y.2 pb) :
    Calls Try.prog 64 #[v, .agg #[.pointer pa, .pointer pb], .pointer (some ⟨tb, 0, none⟩), .pointer (some ⟨c, 0, none⟩)] w fun e w' => e = .returned (.bool (gF goal none xs y).2) ∧ IF tb c eb goal (gF goal none xs y).1 w' ∧ Tch c none w w' := by
  obtain ⟨hT, vc, hC, rfl⟩ := hI
  have yc : y.1.carets ≤ 100 := by unfold Bal at hy; omega
  have X1 := Lib.hid ((Ext.refl w).alloc (.cells #[.pointer pa, .pointer pb] 48))
  obtain ⟨c0, c1⟩ := cells_of (heap_alloc_new w (.cells #[.pointer pa, .pointer pb] 48))
  obtain ⟨c2, _⟩ := one_facts (X1.out.at hT)
  have HT := Lib.hid hT
  have HC := Lib.hid hC
  have V := Lib.hid hv
  have HB := Lib.hid heb
  have LX := Lib.hid hxl
  have P1 := fun W (hx : Ext w W) => ptext_calls y.1 y.2 (by omega) (by omega) pa pb W (rA.ext hx) (rB.ext hx)
  rw [show (y.1, y.2) = y from rfl] at P1
  obtain ⟨AA, cc, rfl, _, _⟩ := hv
  rw [ints_length] at *
  clear hy rA rB hT hC heb hcb hc yc hxl
  by_cases hg : ptx y = goal
  · have HG : Hid (gF goal none xs y = (some xs, true)) := by show _ = _; unfold gF; rw [if_pos hg]
    have t1 : ((ptx y).toList == goal.toList) = true := by rw [hg]; simp
    rw [HG.out]
    generalize ptx y = ty at *
    clear hg
    go_enter Try.func64, Try.ntmps64
    go_wp2_with fail
    generalize w.alloc (.cells #[.pointer pa, .pointer pb] 48) = W at *
    have KX : ∀ w', Ext W w' → w'.cell? ⟨w.heap.size, 0, none⟩ = some (.pointer pa) ∧ w'.cell? ⟨w.heap.size, 1, none⟩ = some (.pointer pb) ∧ w'.cell? ⟨tb, 0, none⟩ = some (.string goal) := fun w' h => ⟨h.cell c0, h.cell c1, h.cell c2⟩
    go_region_held3 (fun w' => w'.cell? ⟨w.heap.size, 0, none⟩ = some (.pointer pa) ∧ w'.cell? ⟨w.heap.size, 1, none⟩ = some (.pointer pb) ∧ w'.cell? ⟨tb, 0, none⟩ = some (.string goal))
      (first | with_reducible exact KX _ (Ext.refl _).drew | with_reducible exact KX _ x2 | fail)
      (first
        | (go_at_call 50; refine (P1 _ (X1.out.drew)).mono ?_; rintro e w2 ⟨rfl, hx⟩; have x2 := (Ext.refl W).drew.trans hx)
        | fail)
    have X2 := Lib.hid (X1.out.trans x2)
    have HC2 := Lib.hid (X2.out.at HC.out)
    have HT2 := Lib.hid (X2.out.at HT.out)
    have V2 := (V.out.ext X2.out)
    obtain ⟨d0, d1⟩ := one_facts HC2.out
    clear x2 hx c0 c1 c2 KX
    have L5 : Hid (((ints []).length + (ints xs).length) * 8 ≤ 140737488355328) := by show _ ≤ _; rw [ints_length, ints_length]; have := LX.out; simp; omega
    have B5 : Hid (eb ≤ w2.heap.size) := Nat.le_trans HB.out X2.out.size
    have ON : Own w2 eb 3 (.slice none 0 0) (ints []) := Own.nil _ _ _
    go_wp2_with (at_builtin; refine wpList_app rfl (.tmp 11) (.tmp 12) 25 rfl eb 3 (.int .i64 0) 8 Try.underlying25 infoInt rfl (by omega) _ _ _ (ints xs) rfl rfl ON V2 (ints_one _) L5.out B5.out ?_; intro v6 w6 o6 g6 _; obtain ⟨A6, n6, c6, rfl⟩ : ∃ A n c, v6 = .slice A n c := (let ⟨A, c, e, _⟩ := o6.reads; ⟨A, _, c, e⟩); have x6 : Ext w2 w6 := (Ext.refl w2).grown g6 (fun k hk => by cases hk); have HC6 := x6.at HC2.out; obtain ⟨d0, d1⟩ := one_facts HC6)
    have FI : Hid (IF tb c eb goal (some xs) (set1 w6 c (.slice A6 n6 c6))) := by
      refine ⟨(set1_other htc _).trans (x6.at HT2.out), _, set1_heap HC6 _, ?_⟩
      exact Own.same o6 fun k hk => set1_other (fun e => by
        subst e
        obtain ⟨cs, fr, h3⟩ := o6.typed k hk
        rw [HC6] at h3
        injection h3 with h3
        injection h3 with _ h4
        exact absurd h4 (by decide)) _
    have FT := Lib.hid (set1_tch (c := c) (X2.out.trans x6) (.slice A6 n6 c6))
    clear o6 g6 x6 ON V2 HC6
    go_wp2_with fail
    go_ret
    exact ⟨rfl, FI.out, FT.out⟩
  · have HG : Hid (gF goal none xs y = (none, false)) := by show _ = _; unfold gF; rw [if_neg hg]
    have t1 : ((ptx y).toList == goal.toList) = false := by rw [beq_eq_false_iff_ne]; intro h; exact hg (ba_ext h)
    rw [HG.out]
    generalize ptx y = ty at *
    clear hg
    go_enter Try.func64, Try.ntmps64
    go_wp2_with fail
    generalize w.alloc (.cells #[.pointer pa, .pointer pb] 48) = W at *
    have KX : ∀ w', Ext W w' → w'.cell? ⟨w.heap.size, 0, none⟩ = some (.pointer pa) ∧ w'.cell? ⟨w.heap.size, 1, none⟩ = some (.pointer pb) ∧ w'.cell? ⟨tb, 0, none⟩ = some (.string goal) := fun w' h => ⟨h.cell c0, h.cell c1, h.cell c2⟩
    go_region_held3 (fun w' => w'.cell? ⟨w.heap.size, 0, none⟩ = some (.pointer pa) ∧ w'.cell? ⟨w.heap.size, 1, none⟩ = some (.pointer pb) ∧ w'.cell? ⟨tb, 0, none⟩ = some (.string goal))
      (first | with_reducible exact KX _ (Ext.refl _).drew | with_reducible exact KX _ x2 | fail)
      (first
        | (go_at_call 50; refine (P1 _ (X1.out.drew)).mono ?_; rintro e w2 ⟨rfl, hx⟩; have x2 := (Ext.refl W).drew.trans hx)
        | fail)
    have X2 := Lib.hid (X1.out.trans x2)
    clear x2 hx c0 c1 c2 KX
    go_wp2_with fail
    go_ret
    exact ⟨rfl, ⟨X2.out.at HT.out, _, X2.out.at HC.out, rfl⟩, (Tch.refl c none w).ext X2.out⟩
/-- What was found, and the world as large as at the start. -/
def IG (tb c eb : Nat) (goal : ByteArray) (s : Option (List Int)) (w : World) : Prop := IF tb c eb goal s w ∧ eb ≤ w.heap.size
theorem find_isCb (b0 c tb eb : Nat) (goal : ByteArray) (hc : c < b0) (htb : tb < b0) (hne : tb ≠ c) : Cb b0 c 64 #[.pointer (some ⟨tb, 0, none⟩), .pointer (some ⟨c, 0, none⟩)] (gF goal) (IG tb c eb goal) (fun s => s = none) where
  run := run_of Try.func64 (by kernel_rfl) (by kernel_rfl)
  low := hc
  box := fun s w ⟨⟨_, v, h, _⟩, _⟩ => ⟨_, _, _, h, by decide⟩
  stab := fun s w w' row hs ⟨⟨h1, v, h2, h3⟩, h4⟩ hg hr => by
    subst hs
    exact ⟨⟨(hg.block tb (Array.getElem?_eq_some_iff.1 h1).1 (fun e => by have := (hr tb e.symm).1; omega)).trans h1, v, (hg.block c (Array.getElem?_eq_some_iff.1 h2).1 (fun e => by have := (hr c e.symm).1; omega)).trans h2, h3⟩, Nat.le_trans h4 hg.size⟩
  ext := fun s w w' h hx => ⟨h.1.ext hx, Nat.le_trans h.2 hx.size⟩
  next := fun s xs y hs h => by
    unfold gF at *
    split
    · rename_i he; rw [if_pos he] at h; cases h
    · exact hs
  call := fun s w v xs y pa pb hs ⟨hI, he⟩ hv hx hy hcc rA rB => by
    subst hs
    refine (find_cb goal tb c eb hne w he v xs y pa pb hI (.inr trivial) hv hx hy hcc rA rB).mono ?_
    rintro e w' ⟨h1, h2, h3⟩
    exact ⟨h1, ⟨h2, Nat.le_trans he h3.size⟩, h3⟩
def foundF : Option (List Int) → Bool
  | none => false
  | some _ => true
theorem conjugA_step (p : Tr × Tr) (goal : ByteArray) (n k : Nat) : conjugA p goal n (k + 1) = match (allW n).find? (fitsA goal (red p)) with | some w => some w | none => conjugA p goal (n + 1) k := rfl

set_option maxHeartbeats 6400000 in
set_option maxRecDepth 100000 in
theorem conjugator_calls (A B C D : Tr) (hc : A.carets = B.carets) (hB : B.carets ≤ 8) (hd : C.carets = D.carets) (hD : D.carets ≤ 8) (n : Nat) (hn : n ≤ 4) (p1 p2 p3 p4 : Option Addr) (w : World) (r1 : Rep w A p1) (r2 : Rep w B p2) (r3 : Rep w C p3) (r4 : Rep w D p4) :
    Calls Try.prog 36 #[.agg #[.pointer p1, .pointer p2], .agg #[.pointer p3, .pointer p4], .int .i64 n] w fun e w' => ∃ v, e = .returned (.tuple #[v, .bool (foundF (conjugA (A, B) (ptx (red (C, D))) 0 (n + 1)))]) ∧ FoundV w' w.heap.size v (conjugA (A, B) (ptx (red (C, D))) 0 (n + 1)) ∧ Ext w w' := by
  have X2 := Lib.hid (((Ext.refl w).alloc (.cells #[.pointer p1, .pointer p2] 48)).alloc (.cells #[.pointer p3, .pointer p4] 48))
  have B3 := Lib.hid (((Ext.refl _).alloc (.cells #[.pointer p3, .pointer p4] 48)).at (heap_alloc_new w (.cells #[.pointer p1, .pointer p2] 48)))
  have B4 := heap_alloc_new (w.alloc (.cells #[.pointer p1, .pointer p2] 48)) (.cells #[.pointer p3, .pointer p4] 48)
  rw [show (w.alloc (.cells #[.pointer p1, .pointer p2] 48)).heap.size = w.heap.size + 1 by simp] at B4
  have B4 := Lib.hid B4
  have R1 := Lib.hid (r1.ext X2.out)
  have R2 := Lib.hid (r2.ext X2.out)
  have R3 := Lib.hid (r3.ext X2.out)
  have R4 := Lib.hid (r4.ext X2.out)
  have CR := Lib.hid (fun pa pb W => reduced_calls C D (by omega) (by omega) pa pb W)
  have CP := Lib.hid (fun pa pb W => reduced_calls A B (by omega) (by omega) pa pb W)
  have hs : Hid (Bal (red (A, B)) ∧ (red (A, B)).2.carets ≤ 8) := ⟨red_same (p := (A, B)) hc, by have := (red_le (A, B)).2; simp only at this; omega⟩
  have hq : Hid ((red (C, D)).1.carets ≤ 8 ∧ (red (C, D)).2.carets ≤ 8) := by have := red_le (C, D); simp only at this; exact ⟨by omega, by omega⟩
  have CT := Lib.hid (fun pa pb W => ptext_calls (red (C, D)).1 (red (C, D)).2 (by have := hq.out; omega) (by have := hq.out; omega) pa pb W)
  rw [show ((red (C, D)).1, (red (C, D)).2) = red (C, D) from rfl] at CT
  have HST := Lib.hid (fun goal n k => conjugA_step (A, B) goal n k)
  have H0 : Hid (∀ goal n, conjugA (A, B) goal n 0 = none) := fun goal n => rfl
  have RW := Lib.hid (fun goal k => runW_find goal k [] (red (A, B)))
  have hn' : (n : Int) ≤ 4 := by omega
  generalize conjugA (A, B) = L at *
  generalize red (A, B) = p0 at *
  generalize red (C, D) = q0 at *
  generalize ptx q0 = goal at *
  clear r1 r2 r3 r4 hc hB hd hD hq
  obtain ⟨c0, c1⟩ := cells_of B3.out
  obtain ⟨c2, c3⟩ := cells_of B4.out
  go_enter Try.func36, Try.ntmps36
  go_wp2_with fail
  generalize (w.alloc (.cells #[.pointer p1, .pointer p2] 48)).alloc (.cells #[.pointer p3, .pointer p4] 48) = W at *
  refine (CR.out p3 p4 _ R3.out R4.out).mono ?_
  rintro e w1 ⟨z1, z2, rfl, rz1, rz2, x1⟩
  have RZ := Lib.hid (And.intro rz1 rz2)
  have X1 := Lib.hid (X2.out.trans x1)
  have B3 := Lib.hid (x1.at B3.out)
  have R1 := Lib.hid (R1.out.ext x1)
  have R2 := Lib.hid (R2.out.ext x1)
  clear rz1 rz2 x1 c0 c1 c2 c3 B4
  go_wp2_with fail
  refine (CT.out z1 z2 _ RZ.out.1 RZ.out.2).mono ?_
  rintro e w3 ⟨rfl, x3⟩
  have xb := x3.alloc (.cells #[.string goal] 9)
  have TB := Lib.hid (heap_alloc_new w3 (.cells #[.string goal] 9))
  have X3 := Lib.hid (X1.out.trans xb)
  have NE : Hid (w.heap.size ≤ w3.heap.size ∧ w.heap.size < w3.heap.size) := by have := (Array.getElem?_eq_some_iff.1 (x3.at B3.out)).1; exact ⟨by omega, this⟩
  have B3 := Lib.hid (xb.at B3.out)
  have R1 := Lib.hid (R1.out.ext xb)
  have R2 := Lib.hid (R2.out.ext xb)
  clear x3 xb RZ
  go_wp2_with fail
  generalize w3.alloc (.cells #[.string goal] 9) = W3 at *
  go_loopw [9] (fun i wr => ∃ k : Nat, k ≤ n + 1 ∧ i = .int .i64 k ∧ Hid (L goal 0 (n + 1) = L goal k (n + 1 - k)) ∧ Hid (wr.heap[w3.heap.size]? = some (.cells #[.string goal] 9)) ∧ Hid (wr.heap[w.heap.size]? = some (.cells #[.pointer p1, .pointer p2] 48)) ∧ Hid (Rep wr A p1) ∧ Hid (Rep wr B p2) ∧ Hid (Ext w wr)) (fun i _ => n + 1 - (intOf i).toNat)
  case atStart => exact ⟨0, by omega, rfl, rfl, TB.out, B3.out, R1.out, R2.out, X3.out⟩
  case round =>
    obtain ⟨k, hk, rfl, HL, HT, HB, HR1, HR2, HX⟩ := hrel
    by_cases hlt : k ≤ n
    · have h0 : (0 : Int) ≤ k := by omega
      have h1 : (k : Int) ≤ n := by omega
      have xa := (Ext.refl wr).alloc (.cells #[.slice none 0 0] 25)
      have CB0 := Lib.hid (heap_alloc_new wr (.cells #[.slice none 0 0] 25))
      have LT : Hid (w3.heap.size < wr.heap.size ∧ w.heap.size < wr.heap.size) := ⟨(Array.getElem?_eq_some_iff.1 HT.out).1, (Array.getElem?_eq_some_iff.1 HB.out).1⟩
      obtain ⟨d0, d1⟩ := cells_of (xa.at HB.out)
      have HT1 := Lib.hid (xa.at HT.out)
      have HB1 := Lib.hid (xa.at HB.out)
      have S1 := Lib.hid (HR1.out.ext xa)
      have S2 := Lib.hid (HR2.out.ext xa)
      have X4 := Lib.hid (HX.out.trans xa)
      have LS : Hid (wr.heap.size < (wr.alloc (.cells #[.slice none 0 0] 25)).heap.size) := by simp [Hid]
      clear xa HT HB HR1 HR2
      go_wp2_with fail
      generalize wr.alloc (.cells #[.slice none 0 0] 25) = W4 at *
      refine (CP.out p1 p2 _ S1.out S2.out).mono ?_
      rintro e w5 ⟨z1, z2, rfl, rz1, rz2, x5⟩
      have I5 : IG w3.heap.size wr.heap.size w.heap.size goal none w5 := ⟨⟨x5.at HT1.out, _, x5.at CB0.out, rfl⟩, (X4.out.trans x5).size⟩
      have WC := Lib.hid (words_calls (find_isCb w5.heap.size wr.heap.size w3.heap.size w.heap.size goal (Nat.lt_of_lt_of_le LS.out x5.size) (by have := LT.out; have := LS.out; have := x5.size; omega) (by have := LT.out; omega)) k [] p0 none (.slice none 0 0) z1 z2 w5 (by omega) (by simp; omega) hs.out.1 (by have := hs.out; omega) rfl I5 (Own.nil _ _ _) (Nat.le_refl _) rz1 rz2)
      rw [RW.out] at WC
      have PK : Hid (∀ w6, Tch wr.heap.size none w5 w6 → w6.heap[w3.heap.size]? = some (.cells #[.string goal] 9) ∧ w6.heap[w.heap.size]? = some (.cells #[.pointer p1, .pointer p2] 48) ∧ Rep w6 A p1 ∧ Rep w6 B p2 ∧ Ext w w6) := by
        intro w6 t6
        have nn : NotNode w5 wr.heap.size := ⟨_, _, _, x5.at CB0.out, by decide⟩
        have := LT.out
        have := HX.out.size
        exact ⟨t6.at_ (x5.at HT1.out) (by omega) (by simp), t6.at_ (x5.at HB1.out) (by omega) (by simp), (S1.out.ext x5).tch t6 nn (fun k hk => by cases hk), (S2.out.ext x5).tch t6 nn (fun k hk => by cases hk), t6.toExt (X4.out.trans x5) (by omega) (fun i hi => by cases hi)⟩
      have ST : Hid (L goal k (n + 1 - k) = match (allW k).find? (fitsA goal p0) with | some w => some w | none => L goal (k + 1) (n - k)) := by
        show _ = _
        rw [show n + 1 - k = n - k + 1 by omega]
        exact HST.out goal k (n - k)
      clear d0 d1 x5 I5 rz1 rz2
      cases hf : (allW k).find? (fitsA goal p0) with
      | some xs =>
        rw [hf] at WC ST
        have EV : Hid (L goal 0 (n + 1) = some xs) := by show _ = _; rw [HL.out, ST.out]
        simp only [List.nil_append] at WC
        go_wp2_with fail
        refine WC.out.mono ?_
        rintro e w6 ⟨rfl, i6, _, t6⟩
        have P6 := Lib.hid (PK.out w6 t6)
        obtain ⟨⟨_, v6, h6, f6⟩, _⟩ := i6
        obtain ⟨e0, e1⟩ := one_facts h6
        have F6 := Lib.hid f6
        clear t6 h6 f6 hf
        go_wp2_with fail
        go_ret2
        rw [EV.out]
        exact ⟨_, rfl, F6.out, P6.out.2.2.2.2⟩
      | none =>
        rw [hf] at WC ST
        have EV : Hid (L goal 0 (n + 1) = L goal (k + 1) (n + 1 - (k + 1))) := by show _ = _; rw [HL.out, ST.out, show n + 1 - (k + 1) = n - k by omega]
        go_wp2_with fail
        refine WC.out.mono ?_
        rintro e w6 ⟨rfl, _, _, t6⟩
        have P6 := Lib.hid (PK.out w6 t6)
        clear t6 hf
        go_wp2_with fail
        exact ⟨⟨k + 1, by omega, by go_num, EV.out, P6.out.1, P6.out.2.1, P6.out.2.2.1, P6.out.2.2.2.1, P6.out.2.2.2.2⟩, by simp [intOf]; omega⟩
    · have h1 : ¬ (k : Int) ≤ n := by omega
      have EV : Hid (L goal 0 (n + 1) = none) := by show _ = _; rw [HL.out, show n + 1 - k = 0 by omega]; exact H0.out _ _
      go_wp2_with fail
      go_ret2
      rw [EV.out]
      exact ⟨_, rfl, rfl, HX.out⟩
end Go.Proofs.Ytfjhecilkeikiaa.N
