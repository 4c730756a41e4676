import Derived.Test.YtpjpnfmbdknoaaaBa
import Derived.Test.YtpjpnfmbdknoaaaPu
import Derived.Test.YtpjpnfmbdknoaaaSl
import Derived.Test.YtpjpnfmbdknoaaaProg
import Derived.Test.YtpjpnfmbdknoaaaTs
import Derived.Test.YtpjpnfmbdknoaaaWl
import Derived.Test.YtpjpnfmbdknoaaaWt
import Derived.Test.YtpjpnfmbdknoaaaWu
import Derived.Test.YtpjpnfmbdknoaaaVt
import Derived.Test.YtpjpnfmbdknoaaaVu
import Derived.Test.YtpjpnfmbdknoaaaTn
import Derived.Test.YtpjpnfmbdknoaaaTp
import Derived.Test.YtpjpnfmbdknoaaaVv
import Derived.Deep.LoopGhost
import Derived.Deep.QuietTactic
import Derived.BigQuiet
/- The value of a tree: both functions and the law. -/
namespace Go.Proofs.Ytpjpnfmbdknoaaa.N
open Go.RowKit
set_option linter.unusedVariables false
set_option linter.unusedSimpArgs false

def VTGood (T : Tr) (s : ByteArray) (xss : List (List Int)) (xs : List Int) : Prop := s = tx T ∧ T.carets ≤ 8 ∧ Tab xss ∧ xs.length = T.carets + 1 ∧ InN xss.length xs
def natsOf (xs : List Int) : List Nat := xs.map Int.toNat
theorem natsOf_eq {n : Nat} {xs : List Int} (h : InN n xs) : ints xs = nats (natsOf xs) := by
  unfold nats natsOf
  congr 1
  rw [List.map_map]
  conv => lhs; rw [← List.map_id xs]
  apply List.map_congr_left
  intro x hx
  have := (h x hx).1
  show x = ((x.toNat : Nat) : Int)
  omega
theorem natsOf_lt {n : Nat} {xs : List Int} (h : InN n xs) : ∀ y ∈ natsOf xs, y < n := by
  intro y hy
  obtain ⟨x, hx, rfl⟩ := List.mem_map.1 hy
  have := h x hx
  omega
theorem natsOf_length (xs : List Int) : (natsOf xs).length = xs.length := by simp [natsOf]
def GivesIB (w : World) (r : Int) (b : Bool) (e : Ending) (w' : World) : Prop := e = .returned (.tuple #[.int .i64 r, .bool b]) ∧ Ext w w'

set_option maxHeartbeats 1600000 in
set_option maxRecDepth 100000 in
theorem implVT_yes (T : Tr) (s : ByteArray) (xss : List (List Int)) (xs : List Int) (hl : xss.length + total xss ≤ 1048576) (h : VTGood T s xss xs) (tv v : Value) (w : World) (ht : ReadsM w tv xss) (hv : RC w v (ints xs)) :
    Calls Try.prog 44 #[.string s, tv, v] w (GivesIB w (val (gOf xss) T (natsOf xs) : Nat) true) := by
  obtain ⟨rfl, h8, hT, hx, hi⟩ := h
  have C1 := Lib.hid (fun W => parse_yes T W h8)
  have C2 := Lib.hid (fun W hW => isTable_calls xss hl tv W (ht.ext hW))
  rw [decide_eq_true hT] at C2
  have C3 := Lib.hid (fun p W => leaves_calls T p W (by omega))
  have C4 := Lib.hid (fun W hW => areThings_calls xs xss.length (by omega) (by omega) v W ((hv.ext hW).1))
  rw [decide_eq_true hi] at C4
  have hv2 := hv
  rw [natsOf_eq hi] at hv2
  have C5 := Lib.hid (fun p W hW hr => value_calls xss.length (gOf xss) (fun i j => gOf_lt hT) T p (natsOf xs) tv v W (by rw [natsOf_length]; omega) (by rw [natsOf_length]; omega) (natsOf_lt hi) hr ((ht.tab hT).ext hW) (hv2.ext hW))
  obtain ⟨A, c, rfl, _⟩ := hv.2
  obtain ⟨A', c', rfl, _⟩ := ht.open
  rw [ints_length] at *
  have q1 : ((xs.length : Int) != ((T.carets : Int) + 1)) = false := by rw [hx]; simp
  have hT' : (T.carets : Int) ≤ 8 ∧ (0 : Int) ≤ T.carets := by omega
  unfold GivesIB
  clear h8 hT hi hv hv2 ht hx
  generalize ((val (gOf xss) T (natsOf xs) : Nat) : Int) = q at *
  generalize tx T = s at *
  go_enter Try.func44, Try.ntmps44
  go_wp2_with fail
  refine (C1.out _).mono ?_
  rintro e w1 ⟨p, rfl, hp, hx⟩
  have H := Lib.hid (And.intro hp hx)
  clear hp hx
  go_wp2_with fail
  refine (C2.out _ H.out.2).mono ?_
  rintro e w2 ⟨rfl, rfl⟩
  go_wp2_with fail
  refine (C3.out _ _ H.out.1).mono ?_
  rintro e w3 ⟨rfl, n3, rfl⟩
  have X3 := Lib.hid (H.out.2.drewN n3)
  have R3 := Lib.hid (H.out.1.ext ((Ext.refl _).drewN n3))
  generalize w1.drewN n3 = w3 at *
  go_wp2_with fail
  refine (C4.out _ X3.out).mono ?_
  rintro e w4 ⟨rfl, rfl⟩
  go_wp2_with fail
  refine (C5.out _ _ X3.out R3.out).mono ?_
  rintro e w5 ⟨u, rfl, hu, x5⟩
  have X5 := Lib.hid (X3.out.trans x5)
  clear hu x5
  go_wp2_with fail
  go_ret2
  exact ⟨rfl, X5.out⟩
set_option maxHeartbeats 1600000 in
set_option maxRecDepth 100000 in
theorem implVT_no (s : ByteArray) (xss : List (List Int)) (xs : List Int) (hl : xss.length + total xss ≤ 1048576) (hxl : xs.length ≤ 1048576) (h : ¬ ∃ T, VTGood T s xss xs) (tv v : Value) (w : World) (ht : ReadsM w tv xss) (hv : RC w v (ints xs)) :
    Calls Try.prog 44 #[.string s, tv, v] w (GivesIB w 0 false) := by
  unfold GivesIB
  by_cases h1 : ∃ T, s = tx T ∧ T.carets ≤ 8
  · obtain ⟨T, rfl, h8⟩ := h1
    have C1 := Lib.hid (fun W => parse_yes T W h8)
    have C2 := Lib.hid (fun W hW => isTable_calls xss hl tv W (ht.ext hW))
    have C3 := Lib.hid (fun p W => leaves_calls T p W (by omega))
    have C4 := Lib.hid (fun W hW => areThings_calls xs xss.length (by omega) (by omega) v W ((hv.ext hW).1))
    obtain ⟨A, c, rfl, _⟩ := hv.2
    obtain ⟨A', c', rfl, _⟩ := ht.open
    rw [ints_length] at *
    have hT' : (T.carets : Int) ≤ 8 ∧ (0 : Int) ≤ T.carets := by omega
    by_cases hT : Tab xss
    · rw [decide_eq_true hT] at C2
      by_cases hx : xs.length = T.carets + 1
      · have hi : ¬ InN xss.length xs := fun hi => h ⟨T, rfl, h8, hT, hx, hi⟩
        rw [decide_eq_false hi] at C4
        have q1 : ((xs.length : Int) != ((T.carets : Int) + 1)) = false := by rw [hx]; simp
        clear h8 hT hi hv ht hx h
        generalize tx T = s at *
        go_enter Try.func44, Try.ntmps44
        go_wp2_with fail
        refine (C1.out _).mono ?_
        rintro e w1 ⟨p, rfl, hp, hx⟩
        have H := Lib.hid (And.intro hp hx)
        clear hp hx
        go_wp2_with fail
        refine (C2.out _ H.out.2).mono ?_
        rintro e w2 ⟨rfl, rfl⟩
        go_wp2_with fail
        refine (C3.out _ _ H.out.1).mono ?_
        rintro e w3 ⟨rfl, n3, rfl⟩
        have X3 := Lib.hid (H.out.2.drewN n3)
        generalize w1.drewN n3 = w3 at *
        go_wp2_with fail
        refine (C4.out _ X3.out).mono ?_
        rintro e w4 ⟨rfl, rfl⟩
        go_wp2_with fail
        go_ret2
        exact ⟨rfl, X3.out⟩
      · have q1 : ((xs.length : Int) != ((T.carets : Int) + 1)) = true := by rw [bne_iff_ne]; omega
        clear h8 hT hv ht hx h
        generalize tx T = s at *
        go_enter Try.func44, Try.ntmps44
        go_wp2_with fail
        refine (C1.out _).mono ?_
        rintro e w1 ⟨p, rfl, hp, hx⟩
        have H := Lib.hid (And.intro hp hx)
        clear hp hx
        go_wp2_with fail
        refine (C2.out _ H.out.2).mono ?_
        rintro e w2 ⟨rfl, rfl⟩
        go_wp2_with fail
        refine (C3.out _ _ H.out.1).mono ?_
        rintro e w3 ⟨rfl, n3, rfl⟩
        have X3 := Lib.hid (H.out.2.drewN n3)
        generalize w1.drewN n3 = w3 at *
        go_wp2_with fail
        go_ret2
        exact ⟨rfl, X3.out⟩
    · rw [decide_eq_false hT] at C2
      clear h8 hT hv ht h
      generalize tx T = s at *
      go_enter Try.func44, Try.ntmps44
      go_wp2_with fail
      refine (C1.out _).mono ?_
      rintro e w1 ⟨p, rfl, hp, hx⟩
      have H := Lib.hid (And.intro hp hx)
      clear hp hx
      go_wp2_with fail
      refine (C2.out _ H.out.2).mono ?_
      rintro e w2 ⟨rfl, rfl⟩
      go_wp2_with fail
      go_ret2
      exact ⟨rfl, H.out.2⟩
  · have C1 := Lib.hid (fun W => parse_no s W h1)
    obtain ⟨A, c, rfl, _⟩ := hv.2
    obtain ⟨A', c', rfl, _⟩ := ht.open
    clear h1 h hv ht
    go_enter Try.func44, Try.ntmps44
    go_wp2_with fail
    refine (C1.out _).mono ?_
    rintro e w1 ⟨rfl, hx⟩
    have X1 := Lib.hid hx
    clear hx
    go_wp2_with fail
    go_ret2
    exact ⟨rfl, X1.out⟩

set_option maxHeartbeats 1600000 in
set_option maxRecDepth 100000 in
theorem specVT_yes (T : Tr) (s : ByteArray) (xss : List (List Int)) (xs : List Int) (hl : xss.length + total xss ≤ 1048576) (h : VTGood T s xss xs) (tv v : Value) (w : World) (ht : ReadsM w tv xss) (hv : RC w v (ints xs)) :
    Calls Try.prog 42 #[.string s, tv, v] w (GivesIB w (val (gOf xss) T (natsOf xs) : Nat) true) := by
  obtain ⟨rfl, h8, hT, hx, hi⟩ := h
  have C1 := Lib.hid (trIs_yes T h8)
  have C2 := Lib.hid (brTable_calls xss hl tv w ht)
  rw [decide_eq_true hT] at C2
  have C3 := Lib.hid (fun W => trCarets_calls (tx T) (by rw [tx_size]; omega) W)
  rw [show (tx T).toList = T.txt from S_toList _, cnt_txt] at C3
  have C4 := Lib.hid (l1All_calls xs 0 ((xss.length : Int) - 1) (by omega) v w hv.1)
  rw [decide_eq_true ((InI_InN _ _).2 hi)] at C4
  have hv2 := hv
  rw [natsOf_eq hi] at hv2
  have C5 := Lib.hid (brValue_calls xss.length (gOf xss) (fun i j => gOf_lt hT) T (natsOf xs) tv v w (by omega) (by rw [natsOf_length]; omega) (by rw [natsOf_length]; omega) (natsOf_lt hi) (ht.tab hT) hv2)
  obtain ⟨A, c, rfl, _⟩ := hv.2
  obtain ⟨A', c', rfl, _⟩ := ht.open
  rw [ints_length] at *
  have q1 : ((xs.length : Int) != ((T.carets : Int) + 1)) = false := by rw [hx]; simp
  have hT' : (T.carets : Int) ≤ 8 ∧ (0 : Int) ≤ T.carets := by omega
  have hn : (xss.length : Int) ≤ 4 := by have := hT.1.2; omega
  unfold GivesIB
  clear h8 hT hi hv hv2 ht hx
  generalize ((val (gOf xss) T (natsOf xs) : Nat) : Int) = q at *
  generalize tx T = s at *
  go_enter Try.func42, Try.ntmps42
  go_wp2_with fail
  refine (C1.out _).mono ?_
  rintro e w1 ⟨rfl, rfl⟩
  go_wp2_with fail
  refine C2.out.mono ?_
  rintro e w2 ⟨rfl, rfl⟩
  go_wp2_with fail
  refine (C3.out _).mono ?_
  rintro e w3 ⟨rfl, rfl⟩
  go_wp2_with fail
  refine C4.out.mono ?_
  rintro e w4 ⟨rfl, rfl⟩
  go_wp2_with fail
  refine C5.out.mono ?_
  rintro e w5 ⟨rfl, n5, rfl⟩
  go_wp2_with fail
  go_ret2
  exact ⟨rfl, (Ext.refl _).drewN n5⟩
set_option maxHeartbeats 1600000 in
set_option maxRecDepth 100000 in
theorem specVT_no (s : ByteArray) (xss : List (List Int)) (xs : List Int) (hl : xss.length + total xss ≤ 1048576) (hxl : xs.length ≤ 1048576) (h : ¬ ∃ T, VTGood T s xss xs) (tv v : Value) (w : World) (ht : ReadsM w tv xss) (hv : RC w v (ints xs)) :
    Calls Try.prog 42 #[.string s, tv, v] w (GivesIB w 0 false) := by
  unfold GivesIB
  by_cases h1 : ∃ T, s = tx T ∧ T.carets ≤ 8
  · obtain ⟨T, rfl, h8⟩ := h1
    have C1 := Lib.hid (trIs_yes T h8)
    have C2 := Lib.hid (brTable_calls xss hl tv w ht)
    have C3 := Lib.hid (fun W => trCarets_calls (tx T) (by rw [tx_size]; omega) W)
    rw [show (tx T).toList = T.txt from S_toList _, cnt_txt] at C3
    have C4 := Lib.hid (l1All_calls xs 0 ((xss.length : Int) - 1) (by omega) v w hv.1)
    obtain ⟨A, c, rfl, _⟩ := hv.2
    obtain ⟨A', c', rfl, _⟩ := ht.open
    rw [ints_length] at *
    have hT' : (T.carets : Int) ≤ 8 ∧ (0 : Int) ≤ T.carets := by omega
    by_cases hT : Tab xss
    · rw [decide_eq_true hT] at C2
      have hn : (xss.length : Int) ≤ 4 := by have := hT.1.2; omega
      by_cases hx : xs.length = T.carets + 1
      · have hi : ¬ InN xss.length xs := fun hi => h ⟨T, rfl, h8, hT, hx, hi⟩
        rw [decide_eq_false (fun h => hi ((InI_InN _ _).1 h))] at C4
        have q1 : ((xs.length : Int) != ((T.carets : Int) + 1)) = false := by rw [hx]; simp
        clear h8 hT hi hv ht hx h
        generalize tx T = s at *
        go_enter Try.func42, Try.ntmps42
        go_wp2_with fail
        refine (C1.out _).mono ?_
        rintro e w1 ⟨rfl, rfl⟩
        go_wp2_with fail
        refine C2.out.mono ?_
        rintro e w2 ⟨rfl, rfl⟩
        go_wp2_with fail
        refine (C3.out _).mono ?_
        rintro e w3 ⟨rfl, rfl⟩
        go_wp2_with fail
        refine C4.out.mono ?_
        rintro e w4 ⟨rfl, rfl⟩
        go_wp2_with fail
        go_ret2
        exact ⟨rfl, Ext.refl _⟩
      · have q1 : ((xs.length : Int) != ((T.carets : Int) + 1)) = true := by rw [bne_iff_ne]; omega
        clear h8 hT hv ht hx h
        generalize tx T = s at *
        go_enter Try.func42, Try.ntmps42
        go_wp2_with fail
        refine (C1.out _).mono ?_
        rintro e w1 ⟨rfl, rfl⟩
        go_wp2_with fail
        refine C2.out.mono ?_
        rintro e w2 ⟨rfl, rfl⟩
        go_wp2_with fail
        refine (C3.out _).mono ?_
        rintro e w3 ⟨rfl, rfl⟩
        go_wp2_with fail
        go_ret2
        exact ⟨rfl, Ext.refl _⟩
    · rw [decide_eq_false hT] at C2
      clear h8 hT hv ht h
      generalize tx T = s at *
      go_enter Try.func42, Try.ntmps42
      go_wp2_with fail
      refine (C1.out _).mono ?_
      rintro e w1 ⟨rfl, rfl⟩
      go_wp2_with fail
      refine C2.out.mono ?_
      rintro e w2 ⟨rfl, rfl⟩
      go_wp2_with fail
      go_ret2
      exact ⟨rfl, Ext.refl _⟩
  · have C1 := Lib.hid (trIs_no s h1)
    obtain ⟨A, c, rfl, _⟩ := hv.2
    obtain ⟨A', c', rfl, _⟩ := ht.open
    clear h1 h hv ht
    go_enter Try.func42, Try.ntmps42
    go_wp2_with fail
    refine (C1.out _).mono ?_
    rintro e w1 ⟨rfl, rfl⟩
    go_wp2_with fail
    go_ret2
    exact ⟨rfl, Ext.refl _⟩
theorem both_ValueOfTree (s : ByteArray) (xss : List (List Int)) (xs : List Int) (hl : xss.length + total xss ≤ 1048576) (hxl : xs.length ≤ 1048576) :
    ∃ r b, (∀ tv v w, ReadsM w tv xss → RC w v (ints xs) → Calls Try.prog 42 #[.string s, tv, v] w (GivesIB w r b)) ∧ ∀ tv v w, ReadsM w tv xss → RC w v (ints xs) → Calls Try.prog 44 #[.string s, tv, v] w (GivesIB w r b) := by
  by_cases h : ∃ T, VTGood T s xss xs
  · obtain ⟨T, h⟩ := h
    exact ⟨_, _, specVT_yes T s xss xs hl h, implVT_yes T s xss xs hl h⟩
  · exact ⟨_, _, specVT_no s xss xs hl hxl h, implVT_no s xss xs hl hxl h⟩

set_option maxHeartbeats 3200000 in
set_option maxRecDepth 100000 in
theorem walk_FnExactValueOfTree (s : ByteArray) (hs : s.size ≤ maxLen) (xss : List (List Int)) (hl : xss.length ≤ maxLen) (hr : ∀ xs ∈ xss, xs.length ≤ maxLen) (tv : Value) (xs : List Int) (hxs : xs.length ≤ maxLen) (v : Value) (w : World) (ht : ReadsM w tv xss) (hv : Reads w v (ints xs)) :
    Calls Try.prog 11 #[.string s, tv, v] w fun e w' => e = .returned (.bool true) ∧ Ext w w' := by
  have C0 := Lib.hid (szIntSS_calls xss hl hr tv w ht)
  have V := Lib.hid (And.intro ht hv)
  obtain ⟨A, c, rfl, _⟩ := hv
  obtain ⟨A', c', rfl, _⟩ := ht.open
  rw [ints_length] at *
  unfold maxLen at hs hxs
  clear hl hr ht
  by_cases hb : (1048576 : Int) < s.size
  · go_enter Try.func11, Try.ntmps11
    go_wp2_with fail
    go_ret
    exact ⟨rfl, Ext.refl _⟩
  by_cases hb2 : (1048576 : Int) < xs.length
  · go_enter Try.func11, Try.ntmps11
    go_wp2_with fail
    go_ret
    exact ⟨rfl, Ext.refl _⟩
  go_enter Try.func11, Try.ntmps11
  go_wp2_with fail
  refine C0.out.mono ?_
  rintro e w0 ⟨r, rfl, hr, rfl⟩
  have hr := Lib.hid hr.out
  by_cases hr0 : r < 0
  · go_wp2_with fail
    go_ret
    exact ⟨rfl, Ext.refl _⟩
  have HB := hr.out.2.2 (by omega)
  obtain ⟨q, b, C1, C2⟩ := both_ValueOfTree s xss xs HB (by omega)
  have C1 := Lib.hid C1
  have C2 := Lib.hid C2
  have C3 := Lib.hid (fun W (h : Ext w W) => toIntSS_calls xss HB _ W (V.out.1.ext h))
  have C4 := Lib.hid (fun va vb w ha h => eqIntSS_calls xss HB va vb w ha h)
  have C5 := Lib.hid (fun W (h : Ext w W) => toIntS_calls xs (by omega) _ W (V.out.2.ext h))
  have C6 := Lib.hid (fun va vb w ha h => eqIntS_calls xs (by omega) va vb w ha h)
  clear HB
  go_wp2_with fail
  refine (C3.out _ (Ext.refl _)).mono ?_
  rintro e w1 ⟨u1, rfl, o1, x1⟩
  have X1 := Lib.hid x1
  have O1 := Lib.hid o1
  clear o1 x1
  go_wp2_with fail
  refine (C5.out _ X1.out).mono ?_
  rintro e w2 ⟨u2, rfl, o2, x2⟩
  have X2 := Lib.hid (X1.out.trans x2)
  have O1 := Lib.hid (O1.out.ext x2)
  have O2 := Lib.hid o2
  clear o2 x2
  go_wp2_with fail
  refine (C1.out _ _ _ O1.out.reads O2.out.rc).mono ?_
  rintro e w3 ⟨rfl, x3⟩
  have X3 := Lib.hid (X2.out.trans x3)
  clear x3 O1 O2
  go_wp2_with fail
  refine (C3.out _ X3.out).mono ?_
  rintro e w4 ⟨u3, rfl, o3, x4⟩
  have X4 := Lib.hid (X3.out.trans x4)
  have O3 := Lib.hid o3
  clear o3 x4
  go_wp2_with fail
  refine (C5.out _ X4.out).mono ?_
  rintro e w5 ⟨u4, rfl, o4, x5⟩
  have X5 := Lib.hid (X4.out.trans x5)
  have O3 := Lib.hid (O3.out.ext x5)
  have O4 := Lib.hid o4
  clear o4 x5
  go_wp2_with fail
  refine (C2.out _ _ _ O3.out.reads O4.out.rc).mono ?_
  rintro e w6 ⟨rfl, x6⟩
  have X6 := Lib.hid (X5.out.trans x6)
  have O3 := Lib.hid (O3.out.ext x6)
  have O4 := Lib.hid (O4.out.ext x6)
  clear x6
  have t1 : (q != q) = false := by simp
  cases b
  all_goals
    go_wp2_with fail
    refine (C3.out _ X6.out).mono ?_
    rintro e w7 ⟨u5, rfl, o5, x7⟩
    have X7 := Lib.hid (X6.out.trans x7)
    have O3 := Lib.hid (O3.out.ext x7)
    have O4 := Lib.hid (O4.out.ext x7)
    have O5 := Lib.hid o5
    clear o5 x7
    go_wp2_with fail
    refine (C4.out _ _ _ O3.out.reads O5.out.reads).mono ?_
    rintro e w8 ⟨rfl, x8⟩
    have X8 := Lib.hid (X7.out.trans x8)
    have O4 := Lib.hid (O4.out.ext x8)
    clear x8 O3 O5
    go_wp2_with fail
    refine (C5.out _ X8.out).mono ?_
    rintro e w9 ⟨u6, rfl, o6, x9⟩
    have X9 := Lib.hid (X8.out.trans x9)
    have O4 := Lib.hid (O4.out.ext x9)
    have O6 := Lib.hid o6
    clear o6 x9
    go_wp2_with fail
    refine (C6.out _ _ _ O4.out.reads O6.out.reads).mono ?_
    rintro e w10 ⟨rfl, n10, rfl⟩
    go_wp2_with fail
    go_ret
    exact ⟨rfl, X9.out.drewN n10⟩
end Go.Proofs.Ytpjpnfmbdknoaaa.N
