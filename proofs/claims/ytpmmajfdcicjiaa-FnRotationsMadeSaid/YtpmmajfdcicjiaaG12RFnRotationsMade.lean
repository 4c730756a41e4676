import Derived.Test.YtpmmajfdcicjiaaG1RFnRotationsMade
import Derived.Test.YtpmmajfdcicjiaaG2RFnRotationsMade
import Derived.Test.YtpmmajfdcicjiaaProg
import Derived.Test.YtpmmajfdcicjiaaG5RFnRotationsMade
import Derived.Test.YtpmmajfdcicjiaaG3RFnRotationsMade
/- Trees turned at an address. -/
namespace Go.Proofs.Ytpmmajfdcicjiaa.N
open Go.RowKit
set_option linter.unusedVariables false
set_option linter.unusedSimpArgs false

/-- What a turn of the program gives. -/
def ImplO (w : World) (o : Option Tr) (e : Ending) (w' : World) : Prop :=
  Ext w w' ∧ match o with
  | some T' => ∃ p, e = .returned (.tuple #[.pointer p, .bool true]) ∧ Rep w' T' p
  | none => ∃ p, e = .returned (.tuple #[.pointer p, .bool false])

set_option maxHeartbeats 1600000 in
set_option maxRecDepth 100000 in
theorem rotated_calls (bk : Bool) (T : Tr) (p : Option Addr) (w : World) (hr : Rep w T p) :
    Calls Try.prog 169 #[.pointer p, .bool bk] w (ImplO w (rot bk T)) := by
  cases T with
  | leaf =>
    obtain rfl := hr
    go_enter Try.func169, Try.ntmps169
    go_wp2_with fail
    go_ret2
    exact ⟨Ext.refl _, none, rfl⟩
  | node l r =>
    have op := hr.open
    clear hr
    obtain ⟨b, pl, pr, rfl, h0, h1, hl, hr⟩ := op
    cases bk
    · cases l with
      | leaf =>
        obtain rfl := hl
        clear hr
        go_enter Try.func169, Try.ntmps169
        go_wp2_with fail
        go_ret2
        exact ⟨Ext.refl _, none, rfl⟩
      | node x y =>
        have op := hl.open
        clear hl
        obtain ⟨b2, px, py, rfl, g0, g1, hx, hy⟩ := op
        have H := Lib.hid (And.intro hr (And.intro hx hy))
        clear hr hx hy
        go_enter Try.func169, Try.ntmps169
        go_wp2_with fail
        go_region_held3 (fun w' => w'.cell? ⟨b, 0, none⟩ = some (.pointer (some ⟨b2, 0, none⟩)) ∧ w'.cell? ⟨b, 1, none⟩ = some (.pointer pr) ∧ w'.cell? ⟨b2, 0, none⟩ = some (.pointer px) ∧ w'.cell? ⟨b2, 1, none⟩ = some (.pointer py) ∧ Ext w w')
          (first | exact four_cells h0 h1 g0 g1 (Ext.drew (Ext.refl _)) | (go_split_ands; exact four_cells h0 h1 g0 g1 (Ext.alloc (by assumption) _))) (first | fail)
        go_wp2_with fail
        go_ret2
        obtain ⟨hr, hx, hy⟩ := H.out
        have e1 := (Ext.refl w).alloc (.cells #[.pointer py, .pointer pr] 162)
        have m1 := Rep.made hy hr
        have m2 := Rep.made' (n := w.heap.size + 1) (hx.ext e1) m1 (by simp)
        exact ⟨((e1.alloc _).drew), _, rfl, m2.ext (Ext.refl _).drew⟩
    · cases r with
      | leaf =>
        obtain rfl := hr
        clear hl
        go_enter Try.func169, Try.ntmps169
        go_wp2_with fail
        go_ret2
        exact ⟨Ext.refl _, none, rfl⟩
      | node x y =>
        have op := hr.open
        clear hr
        obtain ⟨b2, px, py, rfl, g0, g1, hx, hy⟩ := op
        have H := Lib.hid (And.intro hl (And.intro hx hy))
        clear hl hx hy
        go_enter Try.func169, Try.ntmps169
        go_wp2_with fail
        go_region_held3 (fun w' => w'.cell? ⟨b, 0, none⟩ = some (.pointer pl) ∧ w'.cell? ⟨b, 1, none⟩ = some (.pointer (some ⟨b2, 0, none⟩)) ∧ w'.cell? ⟨b2, 0, none⟩ = some (.pointer px) ∧ w'.cell? ⟨b2, 1, none⟩ = some (.pointer py) ∧ Ext w w')
          (first | exact four_cells h0 h1 g0 g1 (Ext.drew (Ext.refl _)) | (go_split_ands; exact four_cells h0 h1 g0 g1 (Ext.alloc (by assumption) _))) (first | fail)
        go_wp2_with fail
        go_ret2
        obtain ⟨hl, hx, hy⟩ := H.out
        have e1 := (Ext.refl w).alloc (.cells #[.pointer pl, .pointer px] 162)
        have m1 := Rep.made hl hx
        have m2 := Rep.made' (n := w.heap.size + 1) m1 (hy.ext e1) (by simp)
        exact ⟨((e1.alloc _).drew), _, rfl, m2.ext (Ext.refl _).drew⟩

set_option maxHeartbeats 3200000 in
set_option maxRecDepth 100000 in
theorem turn_calls (bk : Bool) (l : List UInt8) : ∀ (T : Tr) (s : ByteArray) (p : Option Addr) (w : World), s = S l → Rep w T p →
    Calls Try.prog 110 #[.pointer p, .string s, .bool bk] w (ImplO w (turnT bk l T)) := by
  induction l with
  | nil =>
    intro T s p w hs hr
    have e0 : (s.toList == []) = true := by rw [hs, S_toList]; rfl
    have C := rotated_calls bk T p w hr
    have e1 : turnT bk [] T = rot bk T := rfl
    cases ho : rot bk T with
    | none =>
      rw [ho] at e1 C
      have E1 := Lib.hid e1
      have C := Lib.hid C
      clear hs hr ho e1
      go_enter Try.func110, Try.ntmps110
      go_wp2_with fail
      refine (C.out).mono ?_
      rintro e w1 ⟨hx, p, rfl⟩
      go_wp2_with fail
      go_ret2
      rw [E1.out]
      exact ⟨hx, _, rfl⟩
    | some T' =>
      rw [ho] at e1 C
      have E1 := Lib.hid e1
      have C := Lib.hid C
      clear hs hr ho e1
      go_enter Try.func110, Try.ntmps110
      go_wp2_with fail
      refine (C.out).mono ?_
      rintro e w1 ⟨hx, p, rfl, hp⟩
      go_wp2_with fail
      go_ret2
      rw [E1.out]
      exact ⟨hx, _, rfl, hp⟩
  | cons c l ih =>
    intro T s p w hs hr
    obtain ⟨e0, z0, z1, x0, Ht⟩ := S_facts c l
    rw [← hs] at e0 z0 z1 x0 Ht
    cases T with
    | leaf =>
      obtain rfl := hr
      clear hs ih
      go_enter Try.func110, Try.ntmps110
      go_wp2_with fail
      go_ret2
      exact ⟨Ext.refl _, _, rfl⟩
    | node x y =>
      have op := hr.open
      clear hr
      obtain ⟨b, px, py, rfl, h0, h1, hx, hy⟩ := op
      by_cases c1 : c = 48
      · have t1 : ((c.toNat : Int) == 48) = true := by subst c1; rfl
        have C := fun w p h => ih x _ p w Ht.out h
        cases ho : turnT bk l x with
        | none =>
          simp only [ho] at C
          have R : Hid (turnT bk (c :: l) (.node x y) = none) := by simp [Hid, turnT, c1, ho]
          have H := Lib.hid (And.intro hx hy)
          clear ih hs ho hx hy c1
          go_enter Try.func110, Try.ntmps110
          go_wp2_with fail
          go_region_held3 (fun w' => w'.cell? ⟨b, 0, none⟩ = some (.pointer px) ∧ w'.cell? ⟨b, 1, none⟩ = some (.pointer py) ∧ Ext w w')
            (first | exact two_cells h0 h1 (Ext.drew (Ext.refl _)) | (go_split_ands; exact two_cells h0 h1 (Ext.trans (by assumption) hx1)))
            (first | (go_at_call 110; refine (C _ _ (H.out.1.ext (by go_split_ands; assumption))).mono ?_; rintro e w1 ⟨hx1, q, rfl⟩))
          go_wp2_with fail
          go_ret2
          rw [R.out]
          exact ⟨((Ext.refl _).drew.trans hx1).alloc _, _, rfl⟩
        | some T' =>
          simp only [ho] at C
          have R : Hid (turnT bk (c :: l) (.node x y) = some (.node T' y)) := by simp [Hid, turnT, c1, ho]
          have H := Lib.hid (And.intro hx hy)
          clear ih hs ho hx hy c1
          go_enter Try.func110, Try.ntmps110
          go_wp2_with fail
          go_region_held3 (fun w' => w'.cell? ⟨b, 0, none⟩ = some (.pointer px) ∧ w'.cell? ⟨b, 1, none⟩ = some (.pointer py) ∧ Ext w w')
            (first | exact two_cells h0 h1 (Ext.drew (Ext.refl _)) | (go_split_ands; exact two_cells h0 h1 (Ext.trans (by assumption) hx1)))
            (first | (go_at_call 110; refine (C _ _ (H.out.1.ext (by go_split_ands; assumption))).mono ?_; rintro e w1 ⟨hx1, q, rfl, hq⟩))
          obtain ⟨g0, g1, _⟩ := two_cells h0 h1 ((Ext.refl w).drew.trans hx1)
          have HQ := Lib.hid (And.intro hq hx1)
          clear hq hx1
          go_wp2_with fail
          go_ret2
          rw [R.out]
          have hx2 := (Ext.refl w).drew.trans HQ.out.2
          exact ⟨hx2.alloc _, _, rfl, Rep.made HQ.out.1 (H.out.2.ext hx2)⟩
      · have t1 : ((c.toNat : Int) == 48) = false := byte_ne c1
        by_cases c2 : c = 49
        · have t3 : ((c.toNat : Int) == 49) = true := by subst c2; rfl
          have C := fun w p h => ih y _ p w Ht.out h
          cases ho : turnT bk l y with
          | none =>
            simp only [ho] at C
            have R : Hid (turnT bk (c :: l) (.node x y) = none) := by simp [Hid, turnT, c2, ho]
            have H := Lib.hid (And.intro hx hy)
            clear ih hs ho hx hy c2 c1
            go_enter Try.func110, Try.ntmps110
            go_wp2_with fail
            go_region_held3 (fun w' => w'.cell? ⟨b, 0, none⟩ = some (.pointer px) ∧ w'.cell? ⟨b, 1, none⟩ = some (.pointer py) ∧ Ext w w')
              (first | exact two_cells h0 h1 (Ext.drew (Ext.refl _)) | (go_split_ands; exact two_cells h0 h1 (Ext.trans (by assumption) hx1)))
              (first | (go_at_call 110; refine (C _ _ (H.out.2.ext (by go_split_ands; assumption))).mono ?_; rintro e w1 ⟨hx1, q, rfl⟩))
            go_wp2_with fail
            go_ret2
            rw [R.out]
            exact ⟨((Ext.refl _).drew.trans hx1).alloc _, _, rfl⟩
          | some T' =>
            simp only [ho] at C
            have R : Hid (turnT bk (c :: l) (.node x y) = some (.node x T')) := by simp [Hid, turnT, c2, ho]
            have H := Lib.hid (And.intro hx hy)
            clear ih hs ho hx hy c2 c1
            go_enter Try.func110, Try.ntmps110
            go_wp2_with fail
            go_region_held3 (fun w' => w'.cell? ⟨b, 0, none⟩ = some (.pointer px) ∧ w'.cell? ⟨b, 1, none⟩ = some (.pointer py) ∧ Ext w w')
              (first | exact two_cells h0 h1 (Ext.drew (Ext.refl _)) | (go_split_ands; exact two_cells h0 h1 (Ext.trans (by assumption) hx1)))
              (first | (go_at_call 110; refine (C _ _ (H.out.2.ext (by go_split_ands; assumption))).mono ?_; rintro e w1 ⟨hx1, q, rfl, hq⟩))
            obtain ⟨g0, g1, _⟩ := two_cells h0 h1 ((Ext.refl w).drew.trans hx1)
            have HQ := Lib.hid (And.intro hq hx1)
            clear hq hx1
            go_wp2_with fail
            go_ret2
            rw [R.out]
            have hx2 := (Ext.refl w).drew.trans HQ.out.2
            exact ⟨hx2.alloc _, _, rfl, Rep.made (H.out.1.ext hx2) HQ.out.1⟩
        · have t3 : ((c.toNat : Int) == 49) = false := byte_ne c2
          have R : Hid (turnT bk (c :: l) (.node x y) = none) := by simp [Hid, turnT, c1, c2]
          clear ih hs hx hy c1 c2
          go_enter Try.func110, Try.ntmps110
          go_wp2_with fail
          go_ret2
          rw [R.out]
          exact ⟨Ext.refl _, _, rfl⟩

/-- The text of a tree and true, or nothing and false. -/
def GivesTx (w : World) (o : Option Tr) (e : Ending) (w' : World) : Prop :=
  Ext w w' ∧ match o with
  | some T' => e = .returned (.tuple #[.string (tx T'), .bool true])
  | none => e = .returned (.tuple #[.string (S []), .bool false])
def turnedR (bk : Bool) (T : Tr) (s : ByteArray) : Option Tr := if s.size ≤ 8 then turnT bk s.toList T else none

set_option maxRecDepth 100000 in
theorem turned_yes (bk : Bool) (T : Tr) (hT : T.carets ≤ 8) (s : ByteArray) (w : World) :
    Calls Try.prog 114 #[.string (tx T), .string s, .bool bk] w (GivesTx w (turnedR bk T s)) := by
  have C1 := Lib.hid (parse_yes T w hT)
  by_cases z : s.size ≤ 8
  · have z1 : (s.size : Int) ≤ 8 := by omega
    have C := fun w p h => turn_calls bk s.toList T s p w (S_of s) h
    cases ho : turnT bk s.toList T with
    | none =>
      simp only [ho] at C
      have R : Hid (turnedR bk T s = none) := by simp [Hid, turnedR, z, ho]
      clear z hT ho
      go_enter Try.func114, Try.ntmps114
      go_wp2_with fail
      refine C1.out.mono ?_
      rintro e w1 ⟨p, rfl, hp, hx⟩
      have H := Lib.hid (And.intro hp hx)
      clear hp hx
      go_wp2_with fail
      refine (C _ _ H.out.1).mono ?_
      rintro e w1 ⟨hx2, q, rfl⟩
      go_wp2_with fail
      go_ret2
      rw [R.out]
      exact ⟨H.out.2.trans hx2, rfl⟩
    | some T' =>
      simp only [ho] at C
      have R : Hid (turnedR bk T s = some T') := by simp [Hid, turnedR, z, ho]
      have CT := fun p w h => text_calls T' p w (by have := turnT_carets ho; omega) h
      clear z hT ho
      go_enter Try.func114, Try.ntmps114
      go_wp2_with fail
      refine C1.out.mono ?_
      rintro e w1 ⟨p, rfl, hp, hx⟩
      have H := Lib.hid (And.intro hp hx)
      clear hp hx
      go_wp2_with fail
      refine (C _ _ H.out.1).mono ?_
      rintro e w2 ⟨hx2, q, rfl, hq⟩
      have H2 := Lib.hid (And.intro hq (H.out.2.trans hx2))
      clear hq hx2
      go_wp2_with fail
      refine (CT _ _ H2.out.1).mono ?_
      rintro e w1 ⟨rfl, n, rfl⟩
      go_wp2_with fail
      go_ret2
      rw [R.out]
      exact ⟨H2.out.2.drewN _, rfl⟩
  · have z1 : (8 : Int) < s.size := by omega
    have R : Hid (turnedR bk T s = none) := by simp [Hid, turnedR, z]
    clear z hT
    go_enter Try.func114, Try.ntmps114
    go_wp2_with fail
    refine (C1.out).mono ?_
    rintro e w1 ⟨p, rfl, hp, hx⟩
    go_wp2_with fail
    go_ret2
    rw [R.out]
    exact ⟨hx, rfl⟩
theorem turned_no (bk : Bool) (t : ByteArray) (hT : ¬ ∃ T, t = tx T ∧ T.carets ≤ 8) (s : ByteArray) (w : World) :
    Calls Try.prog 114 #[.string t, .string s, .bool bk] w (GivesTx w none) := by
  have C1 := Lib.hid (parse_no t w hT)
  clear hT
  go_enter Try.func114, Try.ntmps114
  go_wp2_with fail
  refine (C1.out).mono ?_
  rintro e w1 ⟨rfl, hx⟩
  go_wp2_with fail
  go_ret2
  exact ⟨hx, rfl⟩

set_option maxRecDepth 100000 in
theorem brGiven_yes (bk : Bool) (T : Tr) (hT : T.carets ≤ 8) (s : ByteArray) (w : World) :
    Calls Try.prog 112 #[.string (tx T), .string s, .bool bk] w (GivesTx w (turnedR bk T s)) := by
  have C1 := Lib.hid (trIs_yes T hT w)
  by_cases z : s.size ≤ 8
  · have z1 : (s.size : Int) ≤ 8 := by omega
    have C := fun w => brAt_calls bk s.toList T s w (by omega) (S_of s)
    cases ho : turnT bk s.toList T with
    | none =>
      simp only [ho] at C
      have R : Hid (turnedR bk T s = none) := by simp [Hid, turnedR, z, ho]
      clear z hT ho
      go_enter Try.func112, Try.ntmps112
      go_wp2_with fail
      refine (C1.out).mono ?_
      rintro e w1 ⟨rfl, rfl⟩
      go_wp2_with fail
      refine (C _).mono ?_
      rintro e w1 ⟨⟨n, rfl⟩, s2, hs2, rfl⟩
      go_wp2_with fail
      go_ret2
      rw [R.out]
      exact ⟨(Ext.refl _).drewN _, rfl⟩
    | some T' =>
      simp only [ho] at C
      have R : Hid (turnedR bk T s = some T') := by simp [Hid, turnedR, z, ho]
      clear z hT ho
      go_enter Try.func112, Try.ntmps112
      go_wp2_with fail
      refine (C1.out).mono ?_
      rintro e w1 ⟨rfl, rfl⟩
      go_wp2_with fail
      refine (C _).mono ?_
      rintro e w1 ⟨⟨n, rfl⟩, rfl⟩
      go_wp2_with fail
      go_ret2
      rw [R.out]
      exact ⟨(Ext.refl _).drewN _, rfl⟩
  · have z1 : (8 : Int) < s.size := by omega
    have R : Hid (turnedR bk T s = none) := by simp [Hid, turnedR, z]
    clear z hT
    go_enter Try.func112, Try.ntmps112
    go_wp2_with fail
    refine (C1.out).mono ?_
    rintro e w1 ⟨rfl, rfl⟩
    go_wp2_with fail
    go_ret2
    rw [R.out]
    exact ⟨Ext.refl _, rfl⟩
theorem brGiven_no (bk : Bool) (t : ByteArray) (hT : ¬ ∃ T, t = tx T ∧ T.carets ≤ 8) (s : ByteArray) (w : World) :
    Calls Try.prog 112 #[.string t, .string s, .bool bk] w (GivesTx w none) := by
  have C1 := Lib.hid (trIs_no t hT w)
  clear hT
  go_enter Try.func112, Try.ntmps112
  go_wp2_with fail
  refine (C1.out).mono ?_
  rintro e w1 ⟨rfl, rfl⟩
  go_wp2_with fail
  go_ret2
  exact ⟨Ext.refl _, rfl⟩

theorem specRotateAt_yes (T : Tr) (hT : T.carets ≤ 8) (s : ByteArray) (w : World) :
    Calls Try.prog 33 #[.string (tx T), .string s] w (GivesTx w (turnedR false T s)) := by
  have C := brGiven_yes false T hT s w
  cases ho : turnedR false T s with
  | none =>
    rw [ho] at C
    clear ho hT
    go_enter Try.func33, Try.ntmps33
    go_wp2_with fail
    refine (C).mono ?_
    rintro e w1 ⟨hx, rfl⟩
    go_wp2_with fail
    go_ret2
    exact ⟨hx, rfl⟩
  | some T' =>
    rw [ho] at C
    clear ho hT
    go_enter Try.func33, Try.ntmps33
    go_wp2_with fail
    refine (C).mono ?_
    rintro e w1 ⟨hx, rfl⟩
    go_wp2_with fail
    go_ret2
    exact ⟨hx, rfl⟩
theorem specRotateAt_no (t : ByteArray) (hT : ¬ ∃ T, t = tx T ∧ T.carets ≤ 8) (s : ByteArray) (w : World) :
    Calls Try.prog 33 #[.string t, .string s] w (GivesTx w none) := by
  have C := brGiven_no false t hT s w
  clear hT
  go_enter Try.func33, Try.ntmps33
  go_wp2_with fail
  refine (C).mono ?_
  rintro e w1 ⟨hx, rfl⟩
  go_wp2_with fail
  go_ret2
  exact ⟨hx, rfl⟩
theorem implRotateAt_yes (T : Tr) (hT : T.carets ≤ 8) (s : ByteArray) (w : World) :
    Calls Try.prog 32 #[.string (tx T), .string s] w (GivesTx w (turnedR false T s)) := by
  have C := turned_yes false T hT s w
  cases ho : turnedR false T s with
  | none =>
    rw [ho] at C
    clear ho hT
    go_enter Try.func32, Try.ntmps32
    go_wp2_with fail
    refine (C).mono ?_
    rintro e w1 ⟨hx, rfl⟩
    go_wp2_with fail
    go_ret2
    exact ⟨hx, rfl⟩
  | some T' =>
    rw [ho] at C
    clear ho hT
    go_enter Try.func32, Try.ntmps32
    go_wp2_with fail
    refine (C).mono ?_
    rintro e w1 ⟨hx, rfl⟩
    go_wp2_with fail
    go_ret2
    exact ⟨hx, rfl⟩
theorem implRotateAt_no (t : ByteArray) (hT : ¬ ∃ T, t = tx T ∧ T.carets ≤ 8) (s : ByteArray) (w : World) :
    Calls Try.prog 32 #[.string t, .string s] w (GivesTx w none) := by
  have C := turned_no false t hT s w
  clear hT
  go_enter Try.func32, Try.ntmps32
  go_wp2_with fail
  refine (C).mono ?_
  rintro e w1 ⟨hx, rfl⟩
  go_wp2_with fail
  go_ret2
  exact ⟨hx, rfl⟩

theorem specRotateBack_yes (T : Tr) (hT : T.carets ≤ 8) (s : ByteArray) (w : World) :
    Calls Try.prog 37 #[.string (tx T), .string s] w (GivesTx w (turnedR true T s)) := by
  have C := brGiven_yes true T hT s w
  cases ho : turnedR true T s with
  | none =>
    rw [ho] at C
    clear ho hT
    go_enter Try.func37, Try.ntmps37
    go_wp2_with fail
    refine (C).mono ?_
    rintro e w1 ⟨hx, rfl⟩
    go_wp2_with fail
    go_ret2
    exact ⟨hx, rfl⟩
  | some T' =>
    rw [ho] at C
    clear ho hT
    go_enter Try.func37, Try.ntmps37
    go_wp2_with fail
    refine (C).mono ?_
    rintro e w1 ⟨hx, rfl⟩
    go_wp2_with fail
    go_ret2
    exact ⟨hx, rfl⟩
theorem specRotateBack_no (t : ByteArray) (hT : ¬ ∃ T, t = tx T ∧ T.carets ≤ 8) (s : ByteArray) (w : World) :
    Calls Try.prog 37 #[.string t, .string s] w (GivesTx w none) := by
  have C := brGiven_no true t hT s w
  clear hT
  go_enter Try.func37, Try.ntmps37
  go_wp2_with fail
  refine (C).mono ?_
  rintro e w1 ⟨hx, rfl⟩
  go_wp2_with fail
  go_ret2
  exact ⟨hx, rfl⟩
theorem implRotateBack_yes (T : Tr) (hT : T.carets ≤ 8) (s : ByteArray) (w : World) :
    Calls Try.prog 34 #[.string (tx T), .string s] w (GivesTx w (turnedR true T s)) := by
  have C := turned_yes true T hT s w
  cases ho : turnedR true T s with
  | none =>
    rw [ho] at C
    clear ho hT
    go_enter Try.func34, Try.ntmps34
    go_wp2_with fail
    refine (C).mono ?_
    rintro e w1 ⟨hx, rfl⟩
    go_wp2_with fail
    go_ret2
    exact ⟨hx, rfl⟩
  | some T' =>
    rw [ho] at C
    clear ho hT
    go_enter Try.func34, Try.ntmps34
    go_wp2_with fail
    refine (C).mono ?_
    rintro e w1 ⟨hx, rfl⟩
    go_wp2_with fail
    go_ret2
    exact ⟨hx, rfl⟩
theorem implRotateBack_no (t : ByteArray) (hT : ¬ ∃ T, t = tx T ∧ T.carets ≤ 8) (s : ByteArray) (w : World) :
    Calls Try.prog 34 #[.string t, .string s] w (GivesTx w none) := by
  have C := turned_no true t hT s w
  clear hT
  go_enter Try.func34, Try.ntmps34
  go_wp2_with fail
  refine (C).mono ?_
  rintro e w1 ⟨hx, rfl⟩
  go_wp2_with fail
  go_ret2
  exact ⟨hx, rfl⟩

end Go.Proofs.Ytpmmajfdcicjiaa.N
/- The places at which a tree can be turned. -/
namespace Go.Proofs.Ytpmmajfdcicjiaa.N
open Go.RowKit
set_option linter.unusedVariables false
set_option linter.unusedSimpArgs false

theorem infoStr : (Try.prog.info? 9).map (fun i => (i.zero, i.size, i.bytes)) = some (some (.string ⟨#[]⟩), 1, 16) := by kernel_rfl

def sls (xs : List (List UInt8)) : List Value := xs.map fun s => .string (S s)
theorem sls_length (xs : List (List UInt8)) : (sls xs).length = xs.length := by simp [sls]
theorem sls_append (xs ys : List (List UInt8)) : sls xs ++ sls ys = sls (xs ++ ys) := by simp [sls]
theorem sls_one (xs : List (List UInt8)) : ∀ u ∈ sls xs, u.oneCell' = true := by
  intro u hu; obtain ⟨s, _, rfl⟩ := List.mem_map.1 hu; rfl
/-- A slice of strings of the call's own. -/
def GivesS (w : World) (xs : List (List UInt8)) (e : Ending) (w' : World) : Prop := ∃ v, e = .returned v ∧ Own w' w.heap.size 9 v (sls xs) ∧ Ext w w'

set_option maxHeartbeats 3200000 in
set_option maxRecDepth 100000 in
theorem places_calls (T : Tr) : ∀ (a : List UInt8) (s : ByteArray) (p : Option Addr) (w : World), T.carets < 100000000 → a.length + T.carets < 100000000 → s = S a → Rep w T p →
    Calls Try.prog 174 #[.pointer p, .string s] w (GivesS w (T.places a)) := by
  induction T with
  | leaf =>
    intro a s p w _ _ _ hr
    obtain rfl := hr
    go_enter Try.func174, Try.ntmps174
    go_wp2_with fail
    go_ret
    exact ⟨_, rfl, Own.nil _ _ _, Ext.refl _⟩
  | node l r ihl ihr =>
    intro a s p w hc hl hs hr
    have op := hr.open
    clear hr
    obtain ⟨b, pl, pr, rfl, h0, h1, hl', hr'⟩ := op
    have e0 : Hid (s ++ ⟨#[48]⟩ = S (a ++ [48])) := by subst hs; exact S_append a [48]
    have e1 : Hid (s ++ ⟨#[49]⟩ = S (a ++ [49])) := by subst hs; exact S_append a [49]
    have z : s.size ≤ 100000000 := by subst hs; rw [S_size]; omega
    have z1 : (9223372036854775807 < s.size + 1) = False := eq_false (by omega)
    have H := Lib.hid (And.intro hl' hr')
    have hcc : (Tr.node l r).carets = 1 + l.carets + r.carets := rfl
    have HC : Hid (l.carets < 100000000 ∧ (a ++ [48]).length + l.carets < 100000000 ∧ r.carets < 100000000 ∧ (a ++ [49]).length + r.carets < 100000000) := ⟨by omega, by simp; omega, by omega, by simp; omega⟩
    have L1 : Hid (((sls [a]).length + (sls (l.places (a ++ [48]))).length) * 16 ≤ 140737488355328) := by rw [sls_length, sls_length, places_length]; show (1 + _) * 16 ≤ _; omega
    have L2 : Hid (((sls [a] ++ sls (l.places (a ++ [48]))).length + (sls (r.places (a ++ [49]))).length) * 16 ≤ 140737488355328) := by rw [List.length_append, sls_length, sls_length, sls_length, places_length, places_length]; show ((1 + _) + _) * 16 ≤ _; omega
    have OL : Hid (Own (w.alloc (.cells #[.string s] 9)).drew w.heap.size 9 (.slice (some ⟨w.heap.size, 0, none⟩) 1 1) (sls [a])) := by
      have := (Own.lit w w.heap.size 9 #[.string s] (Nat.le_refl _) (by show 1 ≤ maxLen; decide)).ext ((Ext.refl _).drew)
      subst hs; exact this
    have OB : Hid (∀ W, Ext w W → Own (W.alloc (.cells #[.string s] 9)) w.heap.size 9 (.slice (some ⟨W.heap.size, 0, none⟩) 1 1) (sls [a])) := fun W hW => by
      have := Own.lit W w.heap.size 9 #[.string s] hW.size (by show 1 ≤ maxLen; decide)
      subst hs; exact this
    have XL := Lib.hid ((Ext.alloc (Ext.refl w) (.cells #[.string s] 9)).drew)
    clear hl' hr' hs hc hl hcc
    go_enter Try.func174, Try.ntmps174
    go_wp2_with fail
    go_region_held3 (fun w' => w'.cell? ⟨b, 0, none⟩ = some (.pointer pl) ∧ w'.cell? ⟨b, 1, none⟩ = some (.pointer pr) ∧ Ext w w')
      (first | exact two_cells h0 h1 (Ext.drew (Ext.refl _)) | exact two_cells h0 h1 x4 | exact two_cells h0 h1 x3 | exact two_cells h0 h1 x2 | exact two_cells h0 h1 x1 | exact two_cells h0 h1 (Ext.alloc x1 _) | exact two_cells h0 h1 (Ext.drew (Ext.alloc (Ext.refl _) _)) | (go_split_ands; exact two_cells h0 h1 (Ext.alloc (by assumption) _)) | fail)
      (first
        | (go_at_call_of 174 (Value.pointer pl); refine (ihl _ _ _ _ HC.out.1 HC.out.2.1 e0.out (H.out.1.ext (by go_split_ands; assumption))).mono ?_; rintro e w1 ⟨v1, rfl, o1, hx1⟩; have x1 : Ext w w1 := (by first | exact XL.out.trans hx1 | exact (Ext.refl w).drew.trans hx1 | fail))
        | (go_at_call_of 174 (Value.pointer pr); refine (ihr _ _ _ _ HC.out.2.2.1 HC.out.2.2.2 e1.out (H.out.2.ext (by go_split_ands; assumption))).mono ?_; rintro e w3 ⟨v3, rfl, o3, hx3⟩; have x3 := x2.trans hx3)
        | (refine step_app (by rfl) (.tmp 8) (.tmp 15) 52 (by rfl) w.heap.size 9 (.string ⟨#[]⟩) 16 Try.underlying52 infoStr rfl (by omega) _ _ (sls [a]) (sls (l.places (a ++ [48]))) (by rfl) (by rfl) (OL.out.ext hx1) o1.reads (sls_one _) L1.out x1.size ?_; intro v2 w2 o2 g2 _; have x2 := x1.grown g2 (OL.out.lo))
        | (refine step_app (by rfl) (.tmp 8) (.tmp 15) 52 (by rfl) w.heap.size 9 (.string ⟨#[]⟩) 16 Try.underlying52 infoStr rfl (by omega) _ _ (sls [a]) (sls (l.places (a ++ [48]))) (by rfl) (by rfl) (OB.out _ x1) (o1.ext ((Ext.refl _).alloc _)).reads (sls_one _) L1.out (x1.alloc _).size ?_; intro v2 w2 o2 g2 _; have x2 := (x1.alloc _).grown g2 ((OB.out _ x1).lo))
        | (refine step_app (by rfl) (.tmp 16) (.tmp 23) 52 (by rfl) w.heap.size 9 (.string ⟨#[]⟩) 16 Try.underlying52 infoStr rfl (by omega) _ _ _ (sls (r.places (a ++ [49]))) (by rfl) (by rfl) (o2.ext hx3) o3.reads (sls_one _) L2.out x3.size ?_; intro v4 w4 o4 g4 _; have x4 := x3.grown g4 (o2.lo)) | fail)
    all_goals
      go_wp2_with fail
      go_ret
      refine ⟨_, rfl, ?_, x4⟩
      rw [sls_append, sls_append] at o4
      exact o4

theorem sls_get (xs : List (List UInt8)) (k : Nat) (h : k < xs.length) : (sls xs)[k]? = some (.string (S xs[k])) := by simp [sls, List.getElem?_eq_getElem h]
set_option maxHeartbeats 3200000 in
set_option maxRecDepth 100000 in
theorem turns_calls (bk : Bool) (T : Tr) (hT : T.carets < 1000000) (p : Option Addr) (w : World) (hr : Rep w T p) :
    Calls Try.prog 119 #[.pointer p, .bool bk] w (GivesS w (T.turns bk)) := by
  have C1 := Lib.hid (places_calls T [] ⟨#[]⟩ p w (by omega) (by simp; omega) rfl hr)
  have HR := Lib.hid hr
  have HN := Lib.hid (places_length T [])
  have LN : Hid ((T.places []).length < 1000000) := by show _ < _; rw [HN.out]; exact hT
  clear hr hT
  go_enter Try.func119, Try.ntmps119
  go_wp2_with fail
  refine C1.out.mono ?_
  rintro e w1 ⟨v1, rfl, o1, hx1⟩
  obtain ⟨A, c, rfl, _, rd1⟩ := o1.reads
  rw [sls_length] at rd1
  have RD := Lib.hid rd1
  have X1 := Lib.hid hx1
  have TD : Hid (T.turns bk = (T.places []).filter fun a => (turnT bk a T).isSome) := rfl
  have LN' : (T.places []).length < 1000000 := LN.out
  clear rd1 hx1 o1 C1 HN
  rw [sls_length]
  generalize T.places [] = ps at *
  go_wp2_with fail
  go_loopw [5, 13] (fun v i wr => ∃ k : Nat, k ≤ ps.length ∧ i = .int .i64 k ∧ Own wr w1.heap.size 9 v (sls ((ps.take k).filter fun a => (turnT bk a T).isSome)) ∧ Ext w1 wr) (fun _ i _ => ps.length - (intOf i).toNat)
  case atStart => exact ⟨0, Nat.zero_le _, rfl, Own.nil _ _ _, Ext.refl _⟩
  case round =>
    obtain ⟨k, hk, rfl, ho, hx⟩ := hrel
    have HO := Lib.hid ho
    have HX := Lib.hid hx
    clear ho hx
    by_cases hlt : k < ps.length
    · obtain ⟨ad, rfl, ca⟩ := RD.out (by omega)
      have c1 := HX.out.cell (ca k _ (sls_get ps k hlt))
      have h0 : (0 : Int) ≤ k := by omega
      have h1 : (k : Int) < ps.length := by omega
      have FT := Lib.hid (filter_take (fun a => (turnT bk a T).isSome) ps k hlt)
      have LT : Hid (((ps.take k).filter fun a => (turnT bk a T).isSome).length ≤ k) := Nat.le_trans (List.length_filter_le _ _) (List.length_take_le _ _)
      clear ca
      generalize ps[k] = a at *
      have C := turn_calls bk a T (S a) p wr rfl (HR.out.ext (X1.out.trans HX.out))
      cases ht : turnT bk a T with
      | none =>
        rw [ht] at C
        have FT2 : Hid ((ps.take (k + 1)).filter (fun a => (turnT bk a T).isSome) = (ps.take k).filter (fun a => (turnT bk a T).isSome)) := Lib.hid (by have := FT.out; simp only [ht] at this; simpa using this)
        have C := Lib.hid C
        clear ht
        go_wp2_with fail
        refine C.out.mono ?_
        rintro e w2 ⟨hx2, q, rfl⟩
        have O2 := Lib.hid (HO.out.ext hx2)
        have X2 := Lib.hid (HX.out.trans hx2)
        clear hx2
        go_wp2_with fail
        exact ⟨⟨k + 1, by omega, by go_num, by rw [FT2.out]; exact O2.out, X2.out⟩, by simp [intOf]; omega⟩
      | some T' =>
        rw [ht] at C
        have FT2 : Hid ((ps.take (k + 1)).filter (fun a => (turnT bk a T).isSome) = (ps.take k).filter (fun a => (turnT bk a T).isSome) ++ [a]) := Lib.hid (by have := FT.out; simp only [ht] at this; simpa using this)
        have C := Lib.hid C
        clear ht
        go_wp2_with fail
        refine C.out.mono ?_
        rintro e w2 ⟨hx2, q, rfl, hq⟩
        have O2 := Lib.hid (HO.out.ext hx2)
        have X2 := Lib.hid (HX.out.trans hx2)
        clear hx2 hq
        have R1 := Lib.hid (Own.lit w2 0 9 #[.string (S a)] (Nat.zero_le _) (by show 1 ≤ maxLen; decide)).reads
        have L1 : Hid (((sls ((ps.take k).filter fun a => (turnT bk a T).isSome)).length + (sls [a]).length) * 16 ≤ 140737488355328) := by have := LT.out; rw [sls_length, sls_length]; show (_ + 1) * 16 ≤ _; omega
        have B1 := (X2.out.alloc (.cells #[.string (S a)] 9)).size
        go_wp2_with (at_builtin; refine wpList_app rfl (.tmp 25) (.tmp 27) 52 rfl w1.heap.size 9 (.string ⟨#[]⟩) 16 Try.underlying52 infoStr rfl (by omega) _ _ _ (sls [a]) rfl rfl (O2.out.ext ((Ext.refl _).alloc _)) R1.out (sls_one _) L1.out B1 ?_; intro v3 w3 o3 g3 _)
        have O3 := Lib.hid o3
        have X3 := Lib.hid ((X2.out.alloc _).grown g3 O2.out.lo)
        clear o3 g3
        go_wp2_with fail
        exact ⟨⟨k + 1, by omega, by go_num, by rw [FT2.out, ← sls_append]; exact O3.out, X3.out⟩, by simp [intOf]; omega⟩
    · have h1 : (ps.length : Int) ≤ k := by omega
      have E : Hid (ps.take k = ps) := List.take_of_length_le (by omega)
      go_wp2_with fail
      go_ret
      refine ⟨_, rfl, ?_, X1.out.trans HX.out⟩
      rw [TD.out]
      have h := HO.out
      rw [E.out] at h
      exact h.mono X1.out.size

theorem rotSome (bk : Bool) (T : Tr) (hT : T.carets ≤ 50) (w : World) :
    Calls Try.prog 175 #[.string (tx T), .bool bk] w fun e w' => (∃ n, w' = w.drewN n) ∧ ∃ s : ByteArray, e = .returned (.tuple #[.string s, .bool (rot bk T).isSome]) := by
  refine (brRotate_calls bk T hT w).mono ?_
  rintro e w' ⟨h1, h2⟩
  refine ⟨h1, ?_⟩
  cases ho : rot bk T with
  | none => rw [ho] at h2; obtain ⟨s, _, rfl⟩ := h2; exact ⟨s, rfl⟩
  | some T' => rw [ho] at h2; exact ⟨tx T', h2⟩
set_option maxHeartbeats 3200000 in
set_option maxRecDepth 100000 in
theorem brPlaces_calls (bk : Bool) (T : Tr) : ∀ (a : List UInt8) (s : ByteArray) (w : World), T.carets ≤ 50 → a.length + T.carets < 100000000 → s = S a →
    Calls Try.prog 120 #[.string (tx T), .string s, .bool bk] w (GivesS w (brPl bk T a)) := by
  induction T with
  | leaf =>
    intro a s w _ _ _
    go_enter Try.func120, Try.ntmps120
    go_wp2_with fail
    refine (trLeaf_leaf _).mono ?_
    rintro e w1 ⟨rfl, rfl⟩
    go_wp2_with fail
    go_ret
    exact ⟨_, rfl, Own.nil _ _ _, Ext.refl _⟩
  | node l r ihl ihr =>
    intro a s w hc hl hs
    have e0 : Hid (s ++ ⟨#[48]⟩ = S (a ++ [48])) := by subst hs; exact S_append a [48]
    have e1 : Hid (s ++ ⟨#[49]⟩ = S (a ++ [49])) := by subst hs; exact S_append a [49]
    have z : s.size ≤ 100000000 := by subst hs; rw [S_size]; omega
    have hd := (Tr.node l r).depth_le
    have hcc : (Tr.node l r).carets = 1 + l.carets + r.carets := rfl
    have CS := fun w => Lib.hid (trSides_calls l r (by omega) (by omega) w)
    have CR := fun w => rotSome bk (.node l r) hc w
    have C1 := fun w => ihl (a ++ [48]) _ w (by omega) (by simp; omega) e0.out
    have C2 := fun w => ihr (a ++ [49]) _ w (by omega) (by simp; omega) e1.out
    have NL := brPl_length bk l (a ++ [48])
    have NR := brPl_length bk r (a ++ [49])
    have HS := Lib.hid hs
    have RB : Hid (brPl bk (.node l r) a = ((if (rot bk (.node l r)).isSome then [a] else []) ++ brPl bk l (a ++ [48])) ++ brPl bk r (a ++ [49])) := rfl
    cases hb : (rot bk (.node l r)).isSome with
    | false =>
      rw [hb] at RB
      simp only [hb] at CR
      have L1 : Hid (((sls []).length + (sls (brPl bk l (a ++ [48]))).length) * 16 ≤ 140737488355328) := by show (0 + _) * 16 ≤ _; rw [sls_length]; omega
      have L2 : Hid (((sls [] ++ sls (brPl bk l (a ++ [48]))).length + (sls (brPl bk r (a ++ [49]))).length) * 16 ≤ 140737488355328) := by show _ * 16 ≤ _; rw [List.length_append, sls_length, sls_length, sls_length]; show (0 + _ + _) * 16 ≤ _; omega
      clear hc hl hs hd hcc ihl ihr hb NL NR
      go_enter Try.func120, Try.ntmps120
      go_wp2_with fail
      refine (trLeaf_node _ _ _).mono ?_
      rintro e w1 ⟨rfl, rfl⟩
      go_wp2_with fail
      refine (CR _).mono ?_
      rintro e w1 ⟨⟨n, rfl⟩, s2, rfl⟩
      go_wp2_with fail
      refine ((CS _).out).mono ?_
      rintro e w1 ⟨rfl, n2, rfl⟩
      go_wp2_with fail
      refine (C1 _).mono ?_
      rintro e w2 ⟨v2, rfl, o2, hx2⟩
      have x2 := ((Ext.refl w).drewN _).trans hx2
      have ON := Own.nil w2 w.heap.size 9
      have LX := Lib.hid x2.size
      go_wp2_with (at_builtin; refine wpList_app rfl (.tmp 30) (.tmp 35) 52 rfl w.heap.size 9 (.string ⟨#[]⟩) 16 Try.underlying52 infoStr rfl (by omega) _ _ _ (sls (brPl bk l (a ++ [48]))) rfl rfl ON o2.reads (sls_one _) L1.out LX.out ?_; intro v3 w3 o3 g3 _)
      have x3 := x2.grown g3 (Own.lo ON)
      have HX3 := Lib.hid x3
      have HO3 := Lib.hid o3
      clear hx2 x2 o2 g3 x3 o3 LX ON
      refine (C2 _).mono ?_
      rintro e w4 ⟨v4, rfl, o4, hx4⟩
      have x4 := HX3.out.trans hx4
      have O3 := HO3.out.ext hx4
      have LX := Lib.hid x4.size
      go_wp2_with (at_builtin; refine wpList_app rfl (.tmp 37) (.tmp 42) 52 rfl w.heap.size 9 (.string ⟨#[]⟩) 16 Try.underlying52 infoStr rfl (by omega) _ _ _ (sls (brPl bk r (a ++ [49]))) rfl rfl O3 o4.reads (sls_one _) L2.out LX.out ?_; intro v5 w5 o5 g5 _)
      have X5 := Lib.hid (x4.grown g5 O3.lo)
      have HO5 := Lib.hid o5
      clear g5 o5 x4 hx4 O3 o4
      go_wp2_with fail
      go_ret
      refine ⟨_, rfl, ?_, X5.out⟩
      rw [RB.out]
      have := HO5.out
      rw [show (([] : List Value) ++ sls (brPl bk l (a ++ [48]))) ++ sls (brPl bk r (a ++ [49])) = sls (([] ++ brPl bk l (a ++ [48])) ++ brPl bk r (a ++ [49])) from by simp [sls]] at this
      exact this
    | true =>
      rw [hb] at RB
      simp only [hb] at CR
      have L0 : Hid (((sls []).length + (sls [a]).length) * 16 ≤ 140737488355328) := by show (0 + 1) * 16 ≤ _; omega
      have L1 : Hid (((sls [] ++ sls [a]).length + (sls (brPl bk l (a ++ [48]))).length) * 16 ≤ 140737488355328) := by show (1 + _) * 16 ≤ _; rw [sls_length]; omega
      have L2 : Hid ((((sls [] ++ sls [a]) ++ sls (brPl bk l (a ++ [48]))).length + (sls (brPl bk r (a ++ [49]))).length) * 16 ≤ 140737488355328) := by show _ * 16 ≤ _; rw [List.length_append, List.length_append, sls_length, sls_length, sls_length, sls_length]; show (0 + 1 + _ + _) * 16 ≤ _; omega
      clear hc hl hs hd hcc ihl ihr hb NL NR
      go_enter Try.func120, Try.ntmps120
      go_wp2_with fail
      refine (trLeaf_node _ _ _).mono ?_
      rintro e w1 ⟨rfl, rfl⟩
      go_wp2_with fail
      refine (CR _).mono ?_
      rintro e w1 ⟨⟨n, rfl⟩, s2, rfl⟩
      have X1 := Lib.hid ((Ext.refl w).drewN n)
      generalize w.drewN n = w1 at *
      have ON := Own.nil (w1.alloc (.cells #[.string s] 9)) w.heap.size 9
      have RL : Reads (w1.alloc (.cells #[.string s] 9)) (.slice (some ⟨w1.heap.size, 0, none⟩) 1 1) (sls [a]) := by
        have := (Own.lit w1 0 9 #[.string s] (Nat.zero_le _) (by show 1 ≤ maxLen; decide)).reads
        rw [HS.out] at this ⊢; exact this
      have LX := Lib.hid (X1.out.alloc (.cells #[.string s] 9)).size
      go_wp2_with (at_builtin; refine wpList_app rfl (.tmp 21) (.tmp 23) 52 rfl w.heap.size 9 (.string ⟨#[]⟩) 16 Try.underlying52 infoStr rfl (by omega) _ _ _ (sls [a]) rfl rfl ON RL (sls_one _) L0.out LX.out ?_; intro v6 w6 o6 g6 _)
      have X6 := Lib.hid ((X1.out.alloc _).grown g6 ON.lo)
      have HO6 := Lib.hid o6
      clear g6 o6 RL ON LX X1
      refine ((CS _).out).mono ?_
      rintro e w1 ⟨rfl, n2, rfl⟩
      go_wp2_with fail
      refine (C1 _).mono ?_
      rintro e w2 ⟨v2, rfl, o2, hx2⟩
      have x2 := (X6.out.drewN _).trans hx2
      have ON := HO6.out.ext (((Ext.refl _).drewN _).trans hx2)
      have LX := Lib.hid x2.size
      go_wp2_with (at_builtin; refine wpList_app rfl (.tmp 30) (.tmp 35) 52 rfl w.heap.size 9 (.string ⟨#[]⟩) 16 Try.underlying52 infoStr rfl (by omega) _ _ _ (sls (brPl bk l (a ++ [48]))) rfl rfl ON o2.reads (sls_one _) L1.out LX.out ?_; intro v3 w3 o3 g3 _)
      have x3 := x2.grown g3 (Own.lo ON)
      have HX3 := Lib.hid x3
      have HO3 := Lib.hid o3
      clear hx2 x2 o2 g3 x3 o3 LX ON
      refine (C2 _).mono ?_
      rintro e w4 ⟨v4, rfl, o4, hx4⟩
      have x4 := HX3.out.trans hx4
      have O3 := HO3.out.ext hx4
      have LX := Lib.hid x4.size
      go_wp2_with (at_builtin; refine wpList_app rfl (.tmp 37) (.tmp 42) 52 rfl w.heap.size 9 (.string ⟨#[]⟩) 16 Try.underlying52 infoStr rfl (by omega) _ _ _ (sls (brPl bk r (a ++ [49]))) rfl rfl O3 o4.reads (sls_one _) L2.out LX.out ?_; intro v5 w5 o5 g5 _)
      have X5 := Lib.hid (x4.grown g5 O3.lo)
      have HO5 := Lib.hid o5
      clear g5 o5 x4 hx4 O3 o4
      go_wp2_with fail
      go_ret
      refine ⟨_, rfl, ?_, X5.out⟩
      rw [RB.out]
      have := HO5.out
      rw [show ((([] : List Value) ++ sls [a]) ++ sls (brPl bk l (a ++ [48]))) ++ sls (brPl bk r (a ++ [49])) = sls (([a] ++ brPl bk l (a ++ [48])) ++ brPl bk r (a ++ [49])) from by simp [sls]] at this
      exact this

theorem sls_strs (l : List (List UInt8)) : sls l = strs (l.map S) := by simp [sls, strs]
theorem specPlaces_yes (T : Tr) (hT : T.carets ≤ 8) (w : World) :
    Calls Try.prog 41 #[.string (tx T)] w (GivesLS w ((T.turns false).map S) true) := by
  have C1 := Lib.hid (trIs_yes T hT w)
  have C2 := brPlaces_calls false T [] ⟨#[]⟩ w (by omega) (by simp; omega) rfl
  rw [brPl_nil] at C2
  have C2 := Lib.hid C2
  clear hT
  go_enter Try.func41, Try.ntmps41
  go_wp2_with fail
  refine (C1.out).mono ?_
  rintro e w1 ⟨rfl, rfl⟩
  go_wp2_with fail
  refine (C2.out).mono ?_
  rintro e w1 ⟨v, rfl, o, x⟩
  go_wp2_with fail
  go_ret2
  rw [sls_strs] at o
  exact ⟨v, rfl, o, x⟩
theorem specPlaces_no (s : ByteArray) (hT : ¬ ∃ T, s = tx T ∧ T.carets ≤ 8) (w : World) :
    Calls Try.prog 41 #[.string s] w (GivesLS w [] false) := by
  have C1 := Lib.hid (trIs_no s hT w)
  clear hT
  go_enter Try.func41, Try.ntmps41
  go_wp2_with fail
  refine (C1.out).mono ?_
  rintro e w1 ⟨rfl, rfl⟩
  go_wp2_with fail
  go_ret2
  exact ⟨_, rfl, Own.nil _ _ _, Ext.refl _⟩
theorem implPlaces_yes (T : Tr) (hT : T.carets ≤ 8) (w : World) :
    Calls Try.prog 40 #[.string (tx T)] w (GivesLS w ((T.turns false).map S) true) := by
  have C1 := Lib.hid (parse_yes T w hT)
  have C2 := fun p w h => turns_calls false T (by omega) p w h
  clear hT
  go_enter Try.func40, Try.ntmps40
  go_wp2_with fail
  refine C1.out.mono ?_
  rintro e w1 ⟨p, rfl, hp, hx⟩
  have H := Lib.hid (And.intro hp hx)
  clear hp hx
  go_wp2_with fail
  refine (C2 _ _ H.out.1).mono ?_
  rintro e w1 ⟨v, rfl, o, x⟩
  go_wp2_with fail
  go_ret2
  rw [sls_strs] at o
  exact ⟨v, rfl, o.mono H.out.2.size, H.out.2.trans x⟩
theorem implPlaces_no (s : ByteArray) (hT : ¬ ∃ T, s = tx T ∧ T.carets ≤ 8) (w : World) :
    Calls Try.prog 40 #[.string s] w (GivesLS w [] false) := by
  have C1 := Lib.hid (parse_no s w hT)
  clear hT
  go_enter Try.func40, Try.ntmps40
  go_wp2_with fail
  refine (C1.out).mono ?_
  rintro e w1 ⟨rfl, x⟩
  go_wp2_with fail
  go_ret2
  exact ⟨_, rfl, Own.nil _ _ _, x⟩

end Go.Proofs.Ytpmmajfdcicjiaa.N
