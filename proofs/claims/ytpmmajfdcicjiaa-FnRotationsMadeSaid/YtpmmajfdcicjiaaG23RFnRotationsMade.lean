import Derived.Test.YtpmmajfdcicjiaaG1RFnRotationsMade
import Derived.Test.YtpmmajfdcicjiaaG2RFnRotationsMade
import Derived.Test.YtpmmajfdcicjiaaProg
import Derived.Test.YtpmmajfdcicjiaaG10RFnRotationsMade
import Derived.Test.YtpmmajfdcicjiaaG14RFnRotationsMade
import Derived.Test.YtpmmajfdcicjiaaG15RFnRotationsMade
import Derived.Deep.LoopGhost
import Derived.Deep.QuietTactic
import Derived.BigQuiet
import Derived.Test.YtpmmajfdcicjiaaG3RFnRotationsMade
import Derived.Test.YtpmmajfdcicjiaaG5RFnRotationsMade
import Derived.Test.YtpmmajfdcicjiaaG16RFnRotationsMade
/- Tables that are associative, the first three that are not: both functions and the laws. -/
namespace Go.Proofs.Ytpmmajfdcicjiaa.N
open Go.RowKit
set_option linter.unusedVariables false
set_option linter.unusedSimpArgs false

def GivesBB (w : World) (a b : Bool) (e : Ending) (w' : World) : Prop := e = .returned (.tuple #[.bool a, .bool b]) ∧ Ext w w'
theorem specAssoc_yes (xss : List (List Int)) (hl : xss.length + total xss ≤ 1048576) (hT : Tab xss) (l : List Int) (hb : IsBrk xss.length (gOf xss) l) (v : Value) (w : World) (hv : ReadsM w v xss) :
    Calls Try.prog 14 #[v] w (GivesBB w (!decide (0 < l.length)) true) := by
  have C1 := Lib.hid (brTable_calls xss hl v w hv)
  rw [decide_eq_true hT] at C1
  have C2 := Lib.hid (brBroken_calls xss.length (gOf xss) (fun i j => gOf_lt hT) hT.1.2 l hb v w (hv.tab hT))
  clear hb hT hv
  unfold GivesBB
  generalize decide (0 < l.length) = b at *
  go_enter Try.func14, Try.ntmps14
  go_wp2_with fail
  refine C1.out.mono ?_
  rintro e w1 ⟨rfl, rfl⟩
  go_wp2_with fail
  refine C2.out.mono ?_
  rintro e w1 ⟨u, rfl, ou, x1⟩
  have X1 := Lib.hid x1
  clear ou x1
  go_wp2_with fail
  go_ret2
  exact ⟨rfl, X1.out⟩
theorem specAssoc_no (xss : List (List Int)) (hl : xss.length + total xss ≤ 1048576) (hT : ¬ Tab xss) (v : Value) (w : World) (hv : ReadsM w v xss) :
    Calls Try.prog 14 #[v] w (GivesBB w false false) := by
  have C1 := Lib.hid (brTable_calls xss hl v w hv)
  rw [decide_eq_false hT] at C1
  clear hT hv
  unfold GivesBB
  go_enter Try.func14, Try.ntmps14
  go_wp2_with fail
  refine C1.out.mono ?_
  rintro e w1 ⟨rfl, rfl⟩
  go_wp2_with fail
  go_ret2
  exact ⟨rfl, Ext.refl _⟩
theorem implAssoc_yes (xss : List (List Int)) (hl : xss.length + total xss ≤ 1048576) (hT : Tab xss) (l : List Int) (hb : IsBrk xss.length (gOf xss) l) (v : Value) (w : World) (hv : ReadsM w v xss) :
    Calls Try.prog 13 #[v] w (GivesBB w (!decide (0 < l.length)) true) := by
  have C1 := Lib.hid (isTable_calls xss hl v w hv)
  rw [decide_eq_true hT] at C1
  have C2 := Lib.hid (broken_calls xss.length (gOf xss) (fun i j => gOf_lt hT) hT.1.2 l hb v w (hv.tab hT))
  clear hb hT hv
  have EB : Hid ((((l.length : Nat) : Int) == 0) = !decide (0 < l.length)) := by
    show _ = _
    cases l with
    | nil => rfl
    | cons a l => simp; omega
  unfold GivesBB
  generalize decide (0 < l.length) = b at *
  go_enter Try.func13, Try.ntmps13
  go_wp2_with fail
  refine C1.out.mono ?_
  rintro e w1 ⟨rfl, rfl⟩
  go_wp2_with fail
  refine C2.out.mono ?_
  rintro e w1 ⟨u, rfl, ou, x1⟩
  have X1 := Lib.hid x1
  obtain ⟨A, c, rfl, _, _⟩ := ou.reads
  rw [ints_length]
  clear ou x1
  go_wp2_with fail
  go_ret2
  exact ⟨by rw [← EB.out]; rfl, X1.out⟩
theorem implAssoc_no (xss : List (List Int)) (hl : xss.length + total xss ≤ 1048576) (hT : ¬ Tab xss) (v : Value) (w : World) (hv : ReadsM w v xss) :
    Calls Try.prog 13 #[v] w (GivesBB w false false) := by
  have C1 := Lib.hid (isTable_calls xss hl v w hv)
  rw [decide_eq_false hT] at C1
  clear hT hv
  unfold GivesBB
  go_enter Try.func13, Try.ntmps13
  go_wp2_with fail
  refine C1.out.mono ?_
  rintro e w1 ⟨rfl, rfl⟩
  go_wp2_with fail
  go_ret2
  exact ⟨rfl, Ext.refl _⟩
theorem both_IsAssociative (xss : List (List Int)) (hl : xss.length + total xss ≤ 1048576) : ∃ a b, (∀ v w, ReadsM w v xss → Calls Try.prog 14 #[v] w (GivesBB w a b)) ∧ ∀ v w, ReadsM w v xss → Calls Try.prog 13 #[v] w (GivesBB w a b) := by
  by_cases hT : Tab xss
  · obtain ⟨l, hb⟩ := brk_exists xss.length (gOf xss)
    exact ⟨_, _, specAssoc_yes xss hl hT l hb, implAssoc_yes xss hl hT l hb⟩
  · exact ⟨_, _, specAssoc_no xss hl hT, implAssoc_no xss hl hT⟩

theorem specFB_yes (xss : List (List Int)) (hl : xss.length + total xss ≤ 1048576) (hT : Tab xss) (l : List Int) (hb : IsBrk xss.length (gOf xss) l) (v : Value) (w : World) (hv : ReadsM w v xss) :
    Calls Try.prog 16 #[v] w (GivesLI w l (decide (0 < l.length))) := by
  have C1 := Lib.hid (brTable_calls xss hl v w hv)
  rw [decide_eq_true hT] at C1
  have C2 := Lib.hid (brBroken_calls xss.length (gOf xss) (fun i j => gOf_lt hT) hT.1.2 l hb v w (hv.tab hT))
  clear hb hT hv
  unfold GivesLI
  generalize decide (0 < l.length) = b at *
  go_enter Try.func16, Try.ntmps16
  go_wp2_with fail
  refine C1.out.mono ?_
  rintro e w1 ⟨rfl, rfl⟩
  go_wp2_with fail
  refine C2.out.mono ?_
  rintro e w1 ⟨u, rfl, ou, x1⟩
  have X1 := Lib.hid (And.intro ou x1)
  clear ou x1
  go_wp2_with fail
  go_ret2
  exact ⟨u, rfl, X1.out.1, X1.out.2⟩
theorem specFB_no (xss : List (List Int)) (hl : xss.length + total xss ≤ 1048576) (hT : ¬ Tab xss) (v : Value) (w : World) (hv : ReadsM w v xss) :
    Calls Try.prog 16 #[v] w (GivesLI w [] false) := by
  have C1 := Lib.hid (brTable_calls xss hl v w hv)
  rw [decide_eq_false hT] at C1
  clear hT hv
  unfold GivesLI
  go_enter Try.func16, Try.ntmps16
  go_wp2_with fail
  refine C1.out.mono ?_
  rintro e w1 ⟨rfl, rfl⟩
  go_wp2_with fail
  go_ret2
  exact ⟨_, rfl, Own.nil _ _ _, Ext.refl _⟩
theorem implFB_yes (xss : List (List Int)) (hl : xss.length + total xss ≤ 1048576) (hT : Tab xss) (l : List Int) (hb : IsBrk xss.length (gOf xss) l) (v : Value) (w : World) (hv : ReadsM w v xss) :
    Calls Try.prog 15 #[v] w (GivesLI w l (decide (0 < l.length))) := by
  have C1 := Lib.hid (isTable_calls xss hl v w hv)
  rw [decide_eq_true hT] at C1
  have C2 := Lib.hid (broken_calls xss.length (gOf xss) (fun i j => gOf_lt hT) hT.1.2 l hb v w (hv.tab hT))
  clear hb hT hv
  unfold GivesLI
  go_enter Try.func15, Try.ntmps15
  go_wp2_with fail
  refine C1.out.mono ?_
  rintro e w1 ⟨rfl, rfl⟩
  go_wp2_with fail
  refine C2.out.mono ?_
  rintro e w1 ⟨u, rfl, ou, x1⟩
  have X1 := Lib.hid (And.intro ou x1)
  obtain ⟨A, c, rfl, _, _⟩ := ou.reads
  rw [ints_length] at *
  clear ou x1
  go_wp2_with fail
  go_ret2
  exact ⟨_, rfl, X1.out.1, X1.out.2⟩
theorem implFB_no (xss : List (List Int)) (hl : xss.length + total xss ≤ 1048576) (hT : ¬ Tab xss) (v : Value) (w : World) (hv : ReadsM w v xss) :
    Calls Try.prog 15 #[v] w (GivesLI w [] false) := by
  have C1 := Lib.hid (isTable_calls xss hl v w hv)
  rw [decide_eq_false hT] at C1
  clear hT hv
  unfold GivesLI
  go_enter Try.func15, Try.ntmps15
  go_wp2_with fail
  refine C1.out.mono ?_
  rintro e w1 ⟨rfl, rfl⟩
  go_wp2_with fail
  go_ret2
  exact ⟨_, rfl, Own.nil _ _ _, Ext.refl _⟩
theorem IsBrk.short {n : Nat} {g : Nat → Nat → Nat} {l : List Int} (h : IsBrk n g l) : l.length ≤ 3 := by
  rcases h with ⟨rfl, _⟩ | ⟨i, j, k, _, _, _, rfl, _⟩ <;> simp
theorem both_FirstBroken (xss : List (List Int)) (hl : xss.length + total xss ≤ 1048576) : ∃ l b, l.length ≤ 3 ∧ (∀ v w, ReadsM w v xss → Calls Try.prog 16 #[v] w (GivesLI w l b)) ∧ ∀ v w, ReadsM w v xss → Calls Try.prog 15 #[v] w (GivesLI w l b) := by
  by_cases hT : Tab xss
  · obtain ⟨l, hb⟩ := brk_exists xss.length (gOf xss)
    exact ⟨_, _, hb.short, specFB_yes xss hl hT l hb, implFB_yes xss hl hT l hb⟩
  · exact ⟨[], false, by simp, specFB_no xss hl hT, implFB_no xss hl hT⟩

end Go.Proofs.Ytpmmajfdcicjiaa.N
/- The value of a tree: both functions and the law. -/
namespace Go.Proofs.Ytpmmajfdcicjiaa.N
open Go.RowKit
set_option linter.unusedVariables false
set_option linter.unusedSimpArgs false

def VTGood (T : Tr) (s : ByteArray) (xss : List (List Int)) (xs : List Int) : Prop := s = tx T ∧ T.carets ≤ 8 ∧ Tab xss ∧ xs.length = T.carets + 1 ∧ InN xss.length xs
def natsOf (xs : List Int) : List Nat := xs.map Int.toNat
theorem natsOf_eq {n : Nat} {xs : List Int} (h : InN n xs) : ints xs = nats (natsOf xs) := by
  unfold nats natsOf
  congr 1
  rw [List.map_map]
  conv => lhs; rw [← List.map_id xs]
  apply List.map_congr_left
  intro x hx
  have := (h x hx).1
  show x = ((x.toNat : Nat) : Int)
  omega
theorem natsOf_lt {n : Nat} {xs : List Int} (h : InN n xs) : ∀ y ∈ natsOf xs, y < n := by
  intro y hy
  obtain ⟨x, hx, rfl⟩ := List.mem_map.1 hy
  have := h x hx
  omega
theorem natsOf_length (xs : List Int) : (natsOf xs).length = xs.length := by simp [natsOf]
def GivesIB (w : World) (r : Int) (b : Bool) (e : Ending) (w' : World) : Prop := e = .returned (.tuple #[.int .i64 r, .bool b]) ∧ Ext w w'

set_option maxHeartbeats 1600000 in
set_option maxRecDepth 100000 in
theorem implVT_yes (T : Tr) (s : ByteArray) (xss : List (List Int)) (xs : List Int) (hl : xss.length + total xss ≤ 1048576) (h : VTGood T s xss xs) (tv v : Value) (w : World) (ht : ReadsM w tv xss) (hv : RC w v (ints xs)) :
    Calls Try.prog 19 #[.string s, tv, v] w (GivesIB w (val (gOf xss) T (natsOf xs) : Nat) true) := by
  obtain ⟨rfl, h8, hT, hx, hi⟩ := h
  have C1 := Lib.hid (fun W => parse_yes T W h8)
  have C2 := Lib.hid (fun W hW => isTable_calls xss hl tv W (ht.ext hW))
  rw [decide_eq_true hT] at C2
  have C3 := Lib.hid (fun p W => leaves_calls T p W (by omega))
  have C4 := Lib.hid (fun W hW => areThings_calls xs xss.length (by omega) (by omega) v W ((hv.ext hW).1))
  rw [decide_eq_true hi] at C4
  have hv2 := hv
  rw [natsOf_eq hi] at hv2
  have C5 := Lib.hid (fun p W hW hr => value_calls xss.length (gOf xss) (fun i j => gOf_lt hT) T p (natsOf xs) tv v W (by rw [natsOf_length]; omega) (by rw [natsOf_length]; omega) (natsOf_lt hi) hr ((ht.tab hT).ext hW) (hv2.ext hW))
  obtain ⟨A, c, rfl, _⟩ := hv.2
  obtain ⟨A', c', rfl, _⟩ := ht.open
  rw [ints_length] at *
  have q1 : ((xs.length : Int) != ((T.carets : Int) + 1)) = false := by rw [hx]; simp
  have hT' : (T.carets : Int) ≤ 8 ∧ (0 : Int) ≤ T.carets := by omega
  unfold GivesIB
  clear h8 hT hi hv hv2 ht hx
  generalize ((val (gOf xss) T (natsOf xs) : Nat) : Int) = q at *
  generalize tx T = s at *
  go_enter Try.func19, Try.ntmps19
  go_wp2_with fail
  refine (C1.out _).mono ?_
  rintro e w1 ⟨p, rfl, hp, hx⟩
  have H := Lib.hid (And.intro hp hx)
  clear hp hx
  go_wp2_with fail
  refine (C2.out _ H.out.2).mono ?_
  rintro e w2 ⟨rfl, rfl⟩
  go_wp2_with fail
  refine (C3.out _ _ H.out.1).mono ?_
  rintro e w3 ⟨rfl, n3, rfl⟩
  have X3 := Lib.hid (H.out.2.drewN n3)
  have R3 := Lib.hid (H.out.1.ext ((Ext.refl _).drewN n3))
  generalize w1.drewN n3 = w3 at *
  go_wp2_with fail
  refine (C4.out _ X3.out).mono ?_
  rintro e w4 ⟨rfl, rfl⟩
  go_wp2_with fail
  refine (C5.out _ _ X3.out R3.out).mono ?_
  rintro e w5 ⟨u, rfl, hu, x5⟩
  have X5 := Lib.hid (X3.out.trans x5)
  clear hu x5
  go_wp2_with fail
  go_ret2
  exact ⟨rfl, X5.out⟩
set_option maxHeartbeats 1600000 in
set_option maxRecDepth 100000 in
theorem implVT_no (s : ByteArray) (xss : List (List Int)) (xs : List Int) (hl : xss.length + total xss ≤ 1048576) (hxl : xs.length ≤ 1048576) (h : ¬ ∃ T, VTGood T s xss xs) (tv v : Value) (w : World) (ht : ReadsM w tv xss) (hv : RC w v (ints xs)) :
    Calls Try.prog 19 #[.string s, tv, v] w (GivesIB w 0 false) := by
  unfold GivesIB
  by_cases h1 : ∃ T, s = tx T ∧ T.carets ≤ 8
  · obtain ⟨T, rfl, h8⟩ := h1
    have C1 := Lib.hid (fun W => parse_yes T W h8)
    have C2 := Lib.hid (fun W hW => isTable_calls xss hl tv W (ht.ext hW))
    have C3 := Lib.hid (fun p W => leaves_calls T p W (by omega))
    have C4 := Lib.hid (fun W hW => areThings_calls xs xss.length (by omega) (by omega) v W ((hv.ext hW).1))
    obtain ⟨A, c, rfl, _⟩ := hv.2
    obtain ⟨A', c', rfl, _⟩ := ht.open
    rw [ints_length] at *
    have hT' : (T.carets : Int) ≤ 8 ∧ (0 : Int) ≤ T.carets := by omega
    by_cases hT : Tab xss
    · rw [decide_eq_true hT] at C2
      by_cases hx : xs.length = T.carets + 1
      · have hi : ¬ InN xss.length xs := fun hi => h ⟨T, rfl, h8, hT, hx, hi⟩
        rw [decide_eq_false hi] at C4
        have q1 : ((xs.length : Int) != ((T.carets : Int) + 1)) = false := by rw [hx]; simp
        clear h8 hT hi hv ht hx h
        generalize tx T = s at *
        go_enter Try.func19, Try.ntmps19
        go_wp2_with fail
        refine (C1.out _).mono ?_
        rintro e w1 ⟨p, rfl, hp, hx⟩
        have H := Lib.hid (And.intro hp hx)
        clear hp hx
        go_wp2_with fail
        refine (C2.out _ H.out.2).mono ?_
        rintro e w2 ⟨rfl, rfl⟩
        go_wp2_with fail
        refine (C3.out _ _ H.out.1).mono ?_
        rintro e w3 ⟨rfl, n3, rfl⟩
        have X3 := Lib.hid (H.out.2.drewN n3)
        generalize w1.drewN n3 = w3 at *
        go_wp2_with fail
        refine (C4.out _ X3.out).mono ?_
        rintro e w4 ⟨rfl, rfl⟩
        go_wp2_with fail
        go_ret2
        exact ⟨rfl, X3.out⟩
      · have q1 : ((xs.length : Int) != ((T.carets : Int) + 1)) = true := by rw [bne_iff_ne]; omega
        clear h8 hT hv ht hx h
        generalize tx T = s at *
        go_enter Try.func19, Try.ntmps19
        go_wp2_with fail
        refine (C1.out _).mono ?_
        rintro e w1 ⟨p, rfl, hp, hx⟩
        have H := Lib.hid (And.intro hp hx)
        clear hp hx
        go_wp2_with fail
        refine (C2.out _ H.out.2).mono ?_
        rintro e w2 ⟨rfl, rfl⟩
        go_wp2_with fail
        refine (C3.out _ _ H.out.1).mono ?_
        rintro e w3 ⟨rfl, n3, rfl⟩
        have X3 := Lib.hid (H.out.2.drewN n3)
        generalize w1.drewN n3 = w3 at *
        go_wp2_with fail
        go_ret2
        exact ⟨rfl, X3.out⟩
    · rw [decide_eq_false hT] at C2
      clear h8 hT hv ht h
      generalize tx T = s at *
      go_enter Try.func19, Try.ntmps19
      go_wp2_with fail
      refine (C1.out _).mono ?_
      rintro e w1 ⟨p, rfl, hp, hx⟩
      have H := Lib.hid (And.intro hp hx)
      clear hp hx
      go_wp2_with fail
      refine (C2.out _ H.out.2).mono ?_
      rintro e w2 ⟨rfl, rfl⟩
      go_wp2_with fail
      go_ret2
      exact ⟨rfl, H.out.2⟩
  · have C1 := Lib.hid (fun W => parse_no s W h1)
    obtain ⟨A, c, rfl, _⟩ := hv.2
    obtain ⟨A', c', rfl, _⟩ := ht.open
    clear h1 h hv ht
    go_enter Try.func19, Try.ntmps19
    go_wp2_with fail
    refine (C1.out _).mono ?_
    rintro e w1 ⟨rfl, hx⟩
    have X1 := Lib.hid hx
    clear hx
    go_wp2_with fail
    go_ret2
    exact ⟨rfl, X1.out⟩

set_option maxHeartbeats 1600000 in
set_option maxRecDepth 100000 in
theorem specVT_yes (T : Tr) (s : ByteArray) (xss : List (List Int)) (xs : List Int) (hl : xss.length + total xss ≤ 1048576) (h : VTGood T s xss xs) (tv v : Value) (w : World) (ht : ReadsM w tv xss) (hv : RC w v (ints xs)) :
    Calls Try.prog 21 #[.string s, tv, v] w (GivesIB w (val (gOf xss) T (natsOf xs) : Nat) true) := by
  obtain ⟨rfl, h8, hT, hx, hi⟩ := h
  have C1 := Lib.hid (trIs_yes T h8)
  have C2 := Lib.hid (brTable_calls xss hl tv w ht)
  rw [decide_eq_true hT] at C2
  have C3 := Lib.hid (fun W => trCarets_calls (tx T) (by rw [tx_size]; omega) W)
  rw [show (tx T).toList = T.txt from S_toList _, cnt_txt] at C3
  have C4 := Lib.hid (l1All_calls xs 0 ((xss.length : Int) - 1) (by omega) v w hv.1)
  rw [decide_eq_true ((InI_InN _ _).2 hi)] at C4
  have hv2 := hv
  rw [natsOf_eq hi] at hv2
  have C5 := Lib.hid (brValue_calls xss.length (gOf xss) (fun i j => gOf_lt hT) T (natsOf xs) tv v w (by omega) (by rw [natsOf_length]; omega) (by rw [natsOf_length]; omega) (natsOf_lt hi) (ht.tab hT) hv2)
  obtain ⟨A, c, rfl, _⟩ := hv.2
  obtain ⟨A', c', rfl, _⟩ := ht.open
  rw [ints_length] at *
  have q1 : ((xs.length : Int) != ((T.carets : Int) + 1)) = false := by rw [hx]; simp
  have hT' : (T.carets : Int) ≤ 8 ∧ (0 : Int) ≤ T.carets := by omega
  have hn : (xss.length : Int) ≤ 4 := by have := hT.1.2; omega
  unfold GivesIB
  clear h8 hT hi hv hv2 ht hx
  generalize ((val (gOf xss) T (natsOf xs) : Nat) : Int) = q at *
  generalize tx T = s at *
  go_enter Try.func21, Try.ntmps21
  go_wp2_with fail
  refine (C1.out _).mono ?_
  rintro e w1 ⟨rfl, rfl⟩
  go_wp2_with fail
  refine C2.out.mono ?_
  rintro e w2 ⟨rfl, rfl⟩
  go_wp2_with fail
  refine (C3.out _).mono ?_
  rintro e w3 ⟨rfl, rfl⟩
  go_wp2_with fail
  refine C4.out.mono ?_
  rintro e w4 ⟨rfl, rfl⟩
  go_wp2_with fail
  refine C5.out.mono ?_
  rintro e w5 ⟨rfl, n5, rfl⟩
  go_wp2_with fail
  go_ret2
  exact ⟨rfl, (Ext.refl _).drewN n5⟩
set_option maxHeartbeats 1600000 in
set_option maxRecDepth 100000 in
theorem specVT_no (s : ByteArray) (xss : List (List Int)) (xs : List Int) (hl : xss.length + total xss ≤ 1048576) (hxl : xs.length ≤ 1048576) (h : ¬ ∃ T, VTGood T s xss xs) (tv v : Value) (w : World) (ht : ReadsM w tv xss) (hv : RC w v (ints xs)) :
    Calls Try.prog 21 #[.string s, tv, v] w (GivesIB w 0 false) := by
  unfold GivesIB
  by_cases h1 : ∃ T, s = tx T ∧ T.carets ≤ 8
  · obtain ⟨T, rfl, h8⟩ := h1
    have C1 := Lib.hid (trIs_yes T h8)
    have C2 := Lib.hid (brTable_calls xss hl tv w ht)
    have C3 := Lib.hid (fun W => trCarets_calls (tx T) (by rw [tx_size]; omega) W)
    rw [show (tx T).toList = T.txt from S_toList _, cnt_txt] at C3
    have C4 := Lib.hid (l1All_calls xs 0 ((xss.length : Int) - 1) (by omega) v w hv.1)
    obtain ⟨A, c, rfl, _⟩ := hv.2
    obtain ⟨A', c', rfl, _⟩ := ht.open
    rw [ints_length] at *
    have hT' : (T.carets : Int) ≤ 8 ∧ (0 : Int) ≤ T.carets := by omega
    by_cases hT : Tab xss
    · rw [decide_eq_true hT] at C2
      have hn : (xss.length : Int) ≤ 4 := by have := hT.1.2; omega
      by_cases hx : xs.length = T.carets + 1
      · have hi : ¬ InN xss.length xs := fun hi => h ⟨T, rfl, h8, hT, hx, hi⟩
        rw [decide_eq_false (fun h => hi ((InI_InN _ _).1 h))] at C4
        have q1 : ((xs.length : Int) != ((T.carets : Int) + 1)) = false := by rw [hx]; simp
        clear h8 hT hi hv ht hx h
        generalize tx T = s at *
        go_enter Try.func21, Try.ntmps21
        go_wp2_with fail
        refine (C1.out _).mono ?_
        rintro e w1 ⟨rfl, rfl⟩
        go_wp2_with fail
        refine C2.out.mono ?_
        rintro e w2 ⟨rfl, rfl⟩
        go_wp2_with fail
        refine (C3.out _).mono ?_
        rintro e w3 ⟨rfl, rfl⟩
        go_wp2_with fail
        refine C4.out.mono ?_
        rintro e w4 ⟨rfl, rfl⟩
        go_wp2_with fail
        go_ret2
        exact ⟨rfl, Ext.refl _⟩
      · have q1 : ((xs.length : Int) != ((T.carets : Int) + 1)) = true := by rw [bne_iff_ne]; omega
        clear h8 hT hv ht hx h
        generalize tx T = s at *
        go_enter Try.func21, Try.ntmps21
        go_wp2_with fail
        refine (C1.out _).mono ?_
        rintro e w1 ⟨rfl, rfl⟩
        go_wp2_with fail
        refine C2.out.mono ?_
        rintro e w2 ⟨rfl, rfl⟩
        go_wp2_with fail
        refine (C3.out _).mono ?_
        rintro e w3 ⟨rfl, rfl⟩
        go_wp2_with fail
        go_ret2
        exact ⟨rfl, Ext.refl _⟩
    · rw [decide_eq_false hT] at C2
      clear h8 hT hv ht h
      generalize tx T = s at *
      go_enter Try.func21, Try.ntmps21
      go_wp2_with fail
      refine (C1.out _).mono ?_
      rintro e w1 ⟨rfl, rfl⟩
      go_wp2_with fail
      refine C2.out.mono ?_
      rintro e w2 ⟨rfl, rfl⟩
      go_wp2_with fail
      go_ret2
      exact ⟨rfl, Ext.refl _⟩
  · have C1 := Lib.hid (trIs_no s h1)
    obtain ⟨A, c, rfl, _⟩ := hv.2
    obtain ⟨A', c', rfl, _⟩ := ht.open
    clear h1 h hv ht
    go_enter Try.func21, Try.ntmps21
    go_wp2_with fail
    refine (C1.out _).mono ?_
    rintro e w1 ⟨rfl, rfl⟩
    go_wp2_with fail
    go_ret2
    exact ⟨rfl, Ext.refl _⟩
theorem both_ValueOfTree (s : ByteArray) (xss : List (List Int)) (xs : List Int) (hl : xss.length + total xss ≤ 1048576) (hxl : xs.length ≤ 1048576) :
    ∃ r b, (∀ tv v w, ReadsM w tv xss → RC w v (ints xs) → Calls Try.prog 21 #[.string s, tv, v] w (GivesIB w r b)) ∧ ∀ tv v w, ReadsM w tv xss → RC w v (ints xs) → Calls Try.prog 19 #[.string s, tv, v] w (GivesIB w r b) := by
  by_cases h : ∃ T, VTGood T s xss xs
  · obtain ⟨T, h⟩ := h
    exact ⟨_, _, specVT_yes T s xss xs hl h, implVT_yes T s xss xs hl h⟩
  · exact ⟨_, _, specVT_no s xss xs hl hxl h, implVT_no s xss xs hl hxl h⟩

end Go.Proofs.Ytpmmajfdcicjiaa.N
