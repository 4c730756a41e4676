import Derived.Test.YtpmmajfdcicjiaaBa
import Derived.Test.YtpmmajfdcicjiaaPu
import Derived.Test.YtpmmajfdcicjiaaSl
import Derived.Test.YtpmmajfdcicjiaaProg
import Derived.Test.YtpmmajfdcicjiaaTn
import Derived.Test.YtpmmajfdcicjiaaTs
/- Trees turned at an address. -/
namespace Go.Proofs.Ytpmmajfdcicjiaa.N
open Go.RowKit
set_option linter.unusedVariables false
set_option linter.unusedSimpArgs false

/-- What a turn of the program gives. -/
def ImplO (w : World) (o : Option Tr) (e : Ending) (w' : World) : Prop :=
  Ext w w' ∧ match o with
  | some T' => ∃ p, e = .returned (.tuple #[.pointer p, .bool true]) ∧ Rep w' T' p
  | none => ∃ p, e = .returned (.tuple #[.pointer p, .bool false])

set_option maxHeartbeats 1600000 in
set_option maxRecDepth 100000 in
theorem rotated_calls (bk : Bool) (T : Tr) (p : Option Addr) (w : World) (hr : Rep w T p) :
    Calls Try.prog 169 #[.pointer p, .bool bk] w (ImplO w (rot bk T)) := by
  cases T with
  | leaf =>
    obtain rfl := hr
    go_enter Try.func169, Try.ntmps169
    go_wp2_with fail
    go_ret2
    exact ⟨Ext.refl _, none, rfl⟩
  | node l r =>
    have op := hr.open
    clear hr
    obtain ⟨b, pl, pr, rfl, h0, h1, hl, hr⟩ := op
    cases bk
    · cases l with
      | leaf =>
        obtain rfl := hl
        clear hr
        go_enter Try.func169, Try.ntmps169
        go_wp2_with fail
        go_ret2
        exact ⟨Ext.refl _, none, rfl⟩
      | node x y =>
        have op := hl.open
        clear hl
        obtain ⟨b2, px, py, rfl, g0, g1, hx, hy⟩ := op
        have H := Lib.hid (And.intro hr (And.intro hx hy))
        clear hr hx hy
        go_enter Try.func169, Try.ntmps169
        go_wp2_with fail
        go_region_held3 (fun w' => w'.cell? ⟨b, 0, none⟩ = some (.pointer (some ⟨b2, 0, none⟩)) ∧ w'.cell? ⟨b, 1, none⟩ = some (.pointer pr) ∧ w'.cell? ⟨b2, 0, none⟩ = some (.pointer px) ∧ w'.cell? ⟨b2, 1, none⟩ = some (.pointer py) ∧ Ext w w')
          (first | exact four_cells h0 h1 g0 g1 (Ext.drew (Ext.refl _)) | (go_split_ands; exact four_cells h0 h1 g0 g1 (Ext.alloc (by assumption) _))) (first | fail)
        go_wp2_with fail
        go_ret2
        obtain ⟨hr, hx, hy⟩ := H.out
        have e1 := (Ext.refl w).alloc (.cells #[.pointer py, .pointer pr] 162)
        have m1 := Rep.made hy hr
        have m2 := Rep.made' (n := w.heap.size + 1) (hx.ext e1) m1 (by simp)
        exact ⟨((e1.alloc _).drew), _, rfl, m2.ext (Ext.refl _).drew⟩
    · cases r with
      | leaf =>
        obtain rfl := hr
        clear hl
        go_enter Try.func169, Try.ntmps169
        go_wp2_with fail
        go_ret2
        exact ⟨Ext.refl _, none, rfl⟩
      | node x y =>
        have op := hr.open
        clear hr
        obtain ⟨b2, px, py, rfl, g0, g1, hx, hy⟩ := op
        have H := Lib.hid (And.intro hl (And.intro hx hy))
        clear hl hx hy
        go_enter Try.func169, Try.ntmps169
        go_wp2_with fail
        go_region_held3 (fun w' => w'.cell? ⟨b, 0, none⟩ = some (.pointer pl) ∧ w'.cell? ⟨b, 1, none⟩ = some (.pointer (some ⟨b2, 0, none⟩)) ∧ w'.cell? ⟨b2, 0, none⟩ = some (.pointer px) ∧ w'.cell? ⟨b2, 1, none⟩ = some (.pointer py) ∧ Ext w w')
          (first | exact four_cells h0 h1 g0 g1 (Ext.drew (Ext.refl _)) | (go_split_ands; exact four_cells h0 h1 g0 g1 (Ext.alloc (by assumption) _))) (first | fail)
        go_wp2_with fail
        go_ret2
        obtain ⟨hl, hx, hy⟩ := H.out
        have e1 := (Ext.refl w).alloc (.cells #[.pointer pl, .pointer px] 162)
        have m1 := Rep.made hl hx
        have m2 := Rep.made' (n := w.heap.size + 1) m1 (hy.ext e1) (by simp)
        exact ⟨((e1.alloc _).drew), _, rfl, m2.ext (Ext.refl _).drew⟩

set_option maxHeartbeats 3200000 in
set_option maxRecDepth 100000 in
theorem turn_calls (bk : Bool) (l : List UInt8) : ∀ (T : Tr) (s : ByteArray) (p : Option Addr) (w : World), s = S l → Rep w T p →
    Calls Try.prog 110 #[.pointer p, .string s, .bool bk] w (ImplO w (turnT bk l T)) := by
  induction l with
  | nil =>
    intro T s p w hs hr
    have e0 : (s.toList == []) = true := by rw [hs, S_toList]; rfl
    have C := rotated_calls bk T p w hr
    have e1 : turnT bk [] T = rot bk T := rfl
    cases ho : rot bk T with
    | none =>
      rw [ho] at e1 C
      have E1 := Lib.hid e1
      have C := Lib.hid C
      clear hs hr ho e1
      go_enter Try.func110, Try.ntmps110
      go_wp2_with fail
      refine (C.out).mono ?_
      rintro e w1 ⟨hx, p, rfl⟩
      go_wp2_with fail
      go_ret2
      rw [E1.out]
      exact ⟨hx, _, rfl⟩
    | some T' =>
      rw [ho] at e1 C
      have E1 := Lib.hid e1
      have C := Lib.hid C
      clear hs hr ho e1
      go_enter Try.func110, Try.ntmps110
      go_wp2_with fail
      refine (C.out).mono ?_
      rintro e w1 ⟨hx, p, rfl, hp⟩
      go_wp2_with fail
      go_ret2
      rw [E1.out]
      exact ⟨hx, _, rfl, hp⟩
  | cons c l ih =>
    intro T s p w hs hr
    obtain ⟨e0, z0, z1, x0, Ht⟩ := S_facts c l
    rw [← hs] at e0 z0 z1 x0 Ht
    cases T with
    | leaf =>
      obtain rfl := hr
      clear hs ih
      go_enter Try.func110, Try.ntmps110
      go_wp2_with fail
      go_ret2
      exact ⟨Ext.refl _, _, rfl⟩
    | node x y =>
      have op := hr.open
      clear hr
      obtain ⟨b, px, py, rfl, h0, h1, hx, hy⟩ := op
      by_cases c1 : c = 48
      · have t1 : ((c.toNat : Int) == 48) = true := by subst c1; rfl
        have C := fun w p h => ih x _ p w Ht.out h
        cases ho : turnT bk l x with
        | none =>
          simp only [ho] at C
          have R : Hid (turnT bk (c :: l) (.node x y) = none) := by simp [Hid, turnT, c1, ho]
          have H := Lib.hid (And.intro hx hy)
          clear ih hs ho hx hy c1
          go_enter Try.func110, Try.ntmps110
          go_wp2_with fail
          go_region_held3 (fun w' => w'.cell? ⟨b, 0, none⟩ = some (.pointer px) ∧ w'.cell? ⟨b, 1, none⟩ = some (.pointer py) ∧ Ext w w')
            (first | exact two_cells h0 h1 (Ext.drew (Ext.refl _)) | (go_split_ands; exact two_cells h0 h1 (Ext.trans (by assumption) hx1)))
            (first | (go_at_call 110; refine (C _ _ (H.out.1.ext (by go_split_ands; assumption))).mono ?_; rintro e w1 ⟨hx1, q, rfl⟩))
          go_wp2_with fail
          go_ret2
          rw [R.out]
          exact ⟨((Ext.refl _).drew.trans hx1).alloc _, _, rfl⟩
        | some T' =>
          simp only [ho] at C
          have R : Hid (turnT bk (c :: l) (.node x y) = some (.node T' y)) := by simp [Hid, turnT, c1, ho]
          have H := Lib.hid (And.intro hx hy)
          clear ih hs ho hx hy c1
          go_enter Try.func110, Try.ntmps110
          go_wp2_with fail
          go_region_held3 (fun w' => w'.cell? ⟨b, 0, none⟩ = some (.pointer px) ∧ w'.cell? ⟨b, 1, none⟩ = some (.pointer py) ∧ Ext w w')
            (first | exact two_cells h0 h1 (Ext.drew (Ext.refl _)) | (go_split_ands; exact two_cells h0 h1 (Ext.trans (by assumption) hx1)))
            (first | (go_at_call 110; refine (C _ _ (H.out.1.ext (by go_split_ands; assumption))).mono ?_; rintro e w1 ⟨hx1, q, rfl, hq⟩))
          obtain ⟨g0, g1, _⟩ := two_cells h0 h1 ((Ext.refl w).drew.trans hx1)
          have HQ := Lib.hid (And.intro hq hx1)
          clear hq hx1
          go_wp2_with fail
          go_ret2
          rw [R.out]
          have hx2 := (Ext.refl w).drew.trans HQ.out.2
          exact ⟨hx2.alloc _, _, rfl, Rep.made HQ.out.1 (H.out.2.ext hx2)⟩
      · have t1 : ((c.toNat : Int) == 48) = false := byte_ne c1
        by_cases c2 : c = 49
        · have t3 : ((c.toNat : Int) == 49) = true := by subst c2; rfl
          have C := fun w p h => ih y _ p w Ht.out h
          cases ho : turnT bk l y with
          | none =>
            simp only [ho] at C
            have R : Hid (turnT bk (c :: l) (.node x y) = none) := by simp [Hid, turnT, c2, ho]
            have H := Lib.hid (And.intro hx hy)
            clear ih hs ho hx hy c2 c1
            go_enter Try.func110, Try.ntmps110
            go_wp2_with fail
            go_region_held3 (fun w' => w'.cell? ⟨b, 0, none⟩ = some (.pointer px) ∧ w'.cell? ⟨b, 1, none⟩ = some (.pointer py) ∧ Ext w w')
              (first | exact two_cells h0 h1 (Ext.drew (Ext.refl _)) | (go_split_ands; exact two_cells h0 h1 (Ext.trans (by assumption) hx1)))
              (first | (go_at_call 110; refine (C _ _ (H.out.2.ext (by go_split_ands; assumption))).mono ?_; rintro e w1 ⟨hx1, q, rfl⟩))
            go_wp2_with fail
            go_ret2
            rw [R.out]
            exact ⟨((Ext.refl _).drew.trans hx1).alloc _, _, rfl⟩
          | some T' =>
            simp only [ho] at C
            have R : Hid (turnT bk (c :: l) (.node x y) = some (.node x T')) := by simp [Hid, turnT, c2, ho]
            have H := Lib.hid (And.intro hx hy)
            clear ih hs ho hx hy c2 c1
            go_enter Try.func110, Try.ntmps110
            go_wp2_with fail
            go_region_held3 (fun w' => w'.cell? ⟨b, 0, none⟩ = some (.pointer px) ∧ w'.cell? ⟨b, 1, none⟩ = some (.pointer py) ∧ Ext w w')
              (first | exact two_cells h0 h1 (Ext.drew (Ext.refl _)) | (go_split_ands; exact two_cells h0 h1 (Ext.trans (by assumption) hx1)))
              (first | (go_at_call 110; refine (C _ _ (H.out.2.ext (by go_split_ands; assumption))).mono ?_; rintro e w1 ⟨hx1, q, rfl, hq⟩))
            obtain ⟨g0, g1, _⟩ := two_cells h0 h1 ((Ext.refl w).drew.trans hx1)
            have HQ := Lib.hid (And.intro hq hx1)
            clear hq hx1
            go_wp2_with fail
            go_ret2
            rw [R.out]
            have hx2 := (Ext.refl w).drew.trans HQ.out.2
            exact ⟨hx2.alloc _, _, rfl, Rep.made (H.out.1.ext hx2) HQ.out.1⟩
        · have t3 : ((c.toNat : Int) == 49) = false := byte_ne c2
          have R : Hid (turnT bk (c :: l) (.node x y) = none) := by simp [Hid, turnT, c1, c2]
          clear ih hs hx hy c1 c2
          go_enter Try.func110, Try.ntmps110
          go_wp2_with fail
          go_ret2
          rw [R.out]
          exact ⟨Ext.refl _, _, rfl⟩

/-- The text of a tree and true, or nothing and false. -/
def GivesTx (w : World) (o : Option Tr) (e : Ending) (w' : World) : Prop :=
  Ext w w' ∧ match o with
  | some T' => e = .returned (.tuple #[.string (tx T'), .bool true])
  | none => e = .returned (.tuple #[.string (S []), .bool false])
def turnedR (bk : Bool) (T : Tr) (s : ByteArray) : Option Tr := if s.size ≤ 8 then turnT bk s.toList T else none

set_option maxRecDepth 100000 in
theorem turned_yes (bk : Bool) (T : Tr) (hT : T.carets ≤ 8) (s : ByteArray) (w : World) :
    Calls Try.prog 114 #[.string (tx T), .string s, .bool bk] w (GivesTx w (turnedR bk T s)) := by
  have C1 := Lib.hid (parse_yes T w hT)
  by_cases z : s.size ≤ 8
  · have z1 : (s.size : Int) ≤ 8 := by omega
    have C := fun w p h => turn_calls bk s.toList T s p w (S_of s) h
    cases ho : turnT bk s.toList T with
    | none =>
      simp only [ho] at C
      have R : Hid (turnedR bk T s = none) := by simp [Hid, turnedR, z, ho]
      clear z hT ho
      go_enter Try.func114, Try.ntmps114
      go_wp2_with fail
      refine C1.out.mono ?_
      rintro e w1 ⟨p, rfl, hp, hx⟩
      have H := Lib.hid (And.intro hp hx)
      clear hp hx
      go_wp2_with fail
      refine (C _ _ H.out.1).mono ?_
      rintro e w1 ⟨hx2, q, rfl⟩
      go_wp2_with fail
      go_ret2
      rw [R.out]
      exact ⟨H.out.2.trans hx2, rfl⟩
    | some T' =>
      simp only [ho] at C
      have R : Hid (turnedR bk T s = some T') := by simp [Hid, turnedR, z, ho]
      have CT := fun p w h => text_calls T' p w (by have := turnT_carets ho; omega) h
      clear z hT ho
      go_enter Try.func114, Try.ntmps114
      go_wp2_with fail
      refine C1.out.mono ?_
      rintro e w1 ⟨p, rfl, hp, hx⟩
      have H := Lib.hid (And.intro hp hx)
      clear hp hx
      go_wp2_with fail
      refine (C _ _ H.out.1).mono ?_
      rintro e w2 ⟨hx2, q, rfl, hq⟩
      have H2 := Lib.hid (And.intro hq (H.out.2.trans hx2))
      clear hq hx2
      go_wp2_with fail
      refine (CT _ _ H2.out.1).mono ?_
      rintro e w1 ⟨rfl, n, rfl⟩
      go_wp2_with fail
      go_ret2
      rw [R.out]
      exact ⟨H2.out.2.drewN _, rfl⟩
  · have z1 : (8 : Int) < s.size := by omega
    have R : Hid (turnedR bk T s = none) := by simp [Hid, turnedR, z]
    clear z hT
    go_enter Try.func114, Try.ntmps114
    go_wp2_with fail
    refine (C1.out).mono ?_
    rintro e w1 ⟨p, rfl, hp, hx⟩
    go_wp2_with fail
    go_ret2
    rw [R.out]
    exact ⟨hx, rfl⟩
theorem turned_no (bk : Bool) (t : ByteArray) (hT : ¬ ∃ T, t = tx T ∧ T.carets ≤ 8) (s : ByteArray) (w : World) :
    Calls Try.prog 114 #[.string t, .string s, .bool bk] w (GivesTx w none) := by
  have C1 := Lib.hid (parse_no t w hT)
  clear hT
  go_enter Try.func114, Try.ntmps114
  go_wp2_with fail
  refine (C1.out).mono ?_
  rintro e w1 ⟨rfl, hx⟩
  go_wp2_with fail
  go_ret2
  exact ⟨hx, rfl⟩

set_option maxRecDepth 100000 in
theorem brGiven_yes (bk : Bool) (T : Tr) (hT : T.carets ≤ 8) (s : ByteArray) (w : World) :
    Calls Try.prog 112 #[.string (tx T), .string s, .bool bk] w (GivesTx w (turnedR bk T s)) := by
  have C1 := Lib.hid (trIs_yes T hT w)
  by_cases z : s.size ≤ 8
  · have z1 : (s.size : Int) ≤ 8 := by omega
    have C := fun w => brAt_calls bk s.toList T s w (by omega) (S_of s)
    cases ho : turnT bk s.toList T with
    | none =>
      simp only [ho] at C
      have R : Hid (turnedR bk T s = none) := by simp [Hid, turnedR, z, ho]
      clear z hT ho
      go_enter Try.func112, Try.ntmps112
      go_wp2_with fail
      refine (C1.out).mono ?_
      rintro e w1 ⟨rfl, rfl⟩
      go_wp2_with fail
      refine (C _).mono ?_
      rintro e w1 ⟨⟨n, rfl⟩, s2, hs2, rfl⟩
      go_wp2_with fail
      go_ret2
      rw [R.out]
      exact ⟨(Ext.refl _).drewN _, rfl⟩
    | some T' =>
      simp only [ho] at C
      have R : Hid (turnedR bk T s = some T') := by simp [Hid, turnedR, z, ho]
      clear z hT ho
      go_enter Try.func112, Try.ntmps112
      go_wp2_with fail
      refine (C1.out).mono ?_
      rintro e w1 ⟨rfl, rfl⟩
      go_wp2_with fail
      refine (C _).mono ?_
      rintro e w1 ⟨⟨n, rfl⟩, rfl⟩
      go_wp2_with fail
      go_ret2
      rw [R.out]
      exact ⟨(Ext.refl _).drewN _, rfl⟩
  · have z1 : (8 : Int) < s.size := by omega
    have R : Hid (turnedR bk T s = none) := by simp [Hid, turnedR, z]
    clear z hT
    go_enter Try.func112, Try.ntmps112
    go_wp2_with fail
    refine (C1.out).mono ?_
    rintro e w1 ⟨rfl, rfl⟩
    go_wp2_with fail
    go_ret2
    rw [R.out]
    exact ⟨Ext.refl _, rfl⟩
theorem brGiven_no (bk : Bool) (t : ByteArray) (hT : ¬ ∃ T, t = tx T ∧ T.carets ≤ 8) (s : ByteArray) (w : World) :
    Calls Try.prog 112 #[.string t, .string s, .bool bk] w (GivesTx w none) := by
  have C1 := Lib.hid (trIs_no t hT w)
  clear hT
  go_enter Try.func112, Try.ntmps112
  go_wp2_with fail
  refine (C1.out).mono ?_
  rintro e w1 ⟨rfl, rfl⟩
  go_wp2_with fail
  go_ret2
  exact ⟨Ext.refl _, rfl⟩

theorem specRotateAt_yes (T : Tr) (hT : T.carets ≤ 8) (s : ByteArray) (w : World) :
    Calls Try.prog 33 #[.string (tx T), .string s] w (GivesTx w (turnedR false T s)) := by
  have C := brGiven_yes false T hT s w
  cases ho : turnedR false T s with
  | none =>
    rw [ho] at C
    clear ho hT
    go_enter Try.func33, Try.ntmps33
    go_wp2_with fail
    refine (C).mono ?_
    rintro e w1 ⟨hx, rfl⟩
    go_wp2_with fail
    go_ret2
    exact ⟨hx, rfl⟩
  | some T' =>
    rw [ho] at C
    clear ho hT
    go_enter Try.func33, Try.ntmps33
    go_wp2_with fail
    refine (C).mono ?_
    rintro e w1 ⟨hx, rfl⟩
    go_wp2_with fail
    go_ret2
    exact ⟨hx, rfl⟩
theorem specRotateAt_no (t : ByteArray) (hT : ¬ ∃ T, t = tx T ∧ T.carets ≤ 8) (s : ByteArray) (w : World) :
    Calls Try.prog 33 #[.string t, .string s] w (GivesTx w none) := by
  have C := brGiven_no false t hT s w
  clear hT
  go_enter Try.func33, Try.ntmps33
  go_wp2_with fail
  refine (C).mono ?_
  rintro e w1 ⟨hx, rfl⟩
  go_wp2_with fail
  go_ret2
  exact ⟨hx, rfl⟩
theorem implRotateAt_yes (T : Tr) (hT : T.carets ≤ 8) (s : ByteArray) (w : World) :
    Calls Try.prog 32 #[.string (tx T), .string s] w (GivesTx w (turnedR false T s)) := by
  have C := turned_yes false T hT s w
  cases ho : turnedR false T s with
  | none =>
    rw [ho] at C
    clear ho hT
    go_enter Try.func32, Try.ntmps32
    go_wp2_with fail
    refine (C).mono ?_
    rintro e w1 ⟨hx, rfl⟩
    go_wp2_with fail
    go_ret2
    exact ⟨hx, rfl⟩
  | some T' =>
    rw [ho] at C
    clear ho hT
    go_enter Try.func32, Try.ntmps32
    go_wp2_with fail
    refine (C).mono ?_
    rintro e w1 ⟨hx, rfl⟩
    go_wp2_with fail
    go_ret2
    exact ⟨hx, rfl⟩
theorem implRotateAt_no (t : ByteArray) (hT : ¬ ∃ T, t = tx T ∧ T.carets ≤ 8) (s : ByteArray) (w : World) :
    Calls Try.prog 32 #[.string t, .string s] w (GivesTx w none) := by
  have C := turned_no false t hT s w
  clear hT
  go_enter Try.func32, Try.ntmps32
  go_wp2_with fail
  refine (C).mono ?_
  rintro e w1 ⟨hx, rfl⟩
  go_wp2_with fail
  go_ret2
  exact ⟨hx, rfl⟩

theorem specRotateBack_yes (T : Tr) (hT : T.carets ≤ 8) (s : ByteArray) (w : World) :
    Calls Try.prog 37 #[.string (tx T), .string s] w (GivesTx w (turnedR true T s)) := by
  have C := brGiven_yes true T hT s w
  cases ho : turnedR true T s with
  | none =>
    rw [ho] at C
    clear ho hT
    go_enter Try.func37, Try.ntmps37
    go_wp2_with fail
    refine (C).mono ?_
    rintro e w1 ⟨hx, rfl⟩
    go_wp2_with fail
    go_ret2
    exact ⟨hx, rfl⟩
  | some T' =>
    rw [ho] at C
    clear ho hT
    go_enter Try.func37, Try.ntmps37
    go_wp2_with fail
    refine (C).mono ?_
    rintro e w1 ⟨hx, rfl⟩
    go_wp2_with fail
    go_ret2
    exact ⟨hx, rfl⟩
theorem specRotateBack_no (t : ByteArray) (hT : ¬ ∃ T, t = tx T ∧ T.carets ≤ 8) (s : ByteArray) (w : World) :
    Calls Try.prog 37 #[.string t, .string s] w (GivesTx w none) := by
  have C := brGiven_no true t hT s w
  clear hT
  go_enter Try.func37, Try.ntmps37
  go_wp2_with fail
  refine (C).mono ?_
  rintro e w1 ⟨hx, rfl⟩
  go_wp2_with fail
  go_ret2
  exact ⟨hx, rfl⟩
theorem implRotateBack_yes (T : Tr) (hT : T.carets ≤ 8) (s : ByteArray) (w : World) :
    Calls Try.prog 34 #[.string (tx T), .string s] w (GivesTx w (turnedR true T s)) := by
  have C := turned_yes true T hT s w
  cases ho : turnedR true T s with
  | none =>
    rw [ho] at C
    clear ho hT
    go_enter Try.func34, Try.ntmps34
    go_wp2_with fail
    refine (C).mono ?_
    rintro e w1 ⟨hx, rfl⟩
    go_wp2_with fail
    go_ret2
    exact ⟨hx, rfl⟩
  | some T' =>
    rw [ho] at C
    clear ho hT
    go_enter Try.func34, Try.ntmps34
    go_wp2_with fail
    refine (C).mono ?_
    rintro e w1 ⟨hx, rfl⟩
    go_wp2_with fail
    go_ret2
    exact ⟨hx, rfl⟩
theorem implRotateBack_no (t : ByteArray) (hT : ¬ ∃ T, t = tx T ∧ T.carets ≤ 8) (s : ByteArray) (w : World) :
    Calls Try.prog 34 #[.string t, .string s] w (GivesTx w none) := by
  have C := turned_no true t hT s w
  clear hT
  go_enter Try.func34, Try.ntmps34
  go_wp2_with fail
  refine (C).mono ?_
  rintro e w1 ⟨hx, rfl⟩
  go_wp2_with fail
  go_ret2
  exact ⟨hx, rfl⟩

