import Derived.Test.YtpmmajfdcicjiaaBa
import Derived.Test.YtpmmajfdcicjiaaPu
import Derived.Test.YtpmmajfdcicjiaaSl
import Derived.Test.YtpmmajfdcicjiaaProg
import Derived.Test.YtpmmajfdcicjiaaWl
import Derived.Test.YtpmmajfdcicjiaaPp
import Derived.Test.YtpmmajfdcicjiaaTs
import Derived.Test.YtpmmajfdcicjiaaPx
import Derived.Test.YtpmmajfdcicjiaaPg
import Derived.Test.YtpmmajfdcicjiaaSx
import Derived.Test.YtpmmajfdcicjiaaSg
import Derived.Test.YtpmmajfdcicjiaaDa
import Derived.Test.YtpmmajfdcicjiaaWt
import Derived.Test.YtpmmajfdcicjiaaLa
import Derived.Test.YtpmmajfdcicjiaaTp
import Derived.Test.YtpmmajfdcicjiaaDb
import Derived.OwnWalk
import Derived.Deep.LoopGhost
import Derived.Deep.RegionHeld3
import Derived.Deep.QuietTactic
import Derived.BigQuiet
/- Draws: bytes at hand, what is drawn for tables. -/
namespace Go.Proofs.Ytpmmajfdcicjiaa.N
open Go.RowKit
set_option linter.unusedVariables false
set_option linter.unusedSimpArgs false

/-- A slice of bytes that can be read. -/
def BytesR (w : World) (v : Value) (n : Nat) : Prop := ∃ A c, v = .slice A n c ∧ n ≤ 1048576 ∧ (0 < n → ∃ ad, A = some ad ∧ ad.block < w.heap.size ∧ ∀ j, j < n → ∃ b : Nat, b < 256 ∧ w.cell? (ad.add j) = some (.int .u8 (b : Nat)))
theorem BytesR.ext {w w' : World} {v : Value} {n : Nat} (h : BytesR w v n) (hx : Ext w w') : BytesR w' v n := by
  obtain ⟨A, c, e, h1, h2⟩ := h
  exact ⟨A, c, e, h1, fun hp => let ⟨ad, ea, hb, hc⟩ := h2 hp; ⟨ad, ea, Nat.lt_of_lt_of_le hb hx.size, fun j hj => let ⟨b, b1, b2⟩ := hc j hj; ⟨b, b1, hx.cell b2⟩⟩⟩
theorem Cur.new {w : World} {v : Value} {n g : Nat} (h : BytesR w v n) (hg : w.heap.size = g) : Cur (w.alloc (.cells #[v, .int .i64 0, .int .u64 0] 88)) g 100000 := by
  subst hg
  obtain ⟨A, c, rfl, h1, h2⟩ := h
  have hx := (Ext.refl w).alloc (.cells #[.slice A n c, .int .i64 0, .int .u64 0] 88)
  exact ⟨A, n, c, 0, 0, heap_alloc_new w _, by omega, h1, fun hp => let ⟨ad, ea, hb, hc⟩ := h2 hp; ⟨ad, ea, hb, fun j hj => let ⟨b, b1, b2⟩ := hc j hj; ⟨b, b1, hx.cell b2⟩⟩⟩

theorem OwnM.set2 {w : World} {b g : Nat} {v : Value} {xss : List (List Int)} (h : OwnM w b v xss) (hT : Two w g 25) {s t : Value} : OwnM (N.set2 w g s t) b v xss := by
  obtain ⟨us, ho, hr⟩ := h
  have hg : w.grownBy (N.set2 w g s t) (some g) := ⟨rfl, rfl, rfl, by simp [N.set2, World.setCell], fun k hk hne => set2_other (fun e => hne (by rw [e])) s t⟩
  have hne : ∀ {e : TypeId} {u : Value} {xs : List Value}, Own w b e u xs → e ≠ 25 → ∀ k, some g = some k → u.ownBlock ≠ some k := fun ou he k hk hu => by
    injection hk with hk
    subst hk
    obtain ⟨cs, fr, e1⟩ := ou.typed _ hu
    obtain ⟨x, y, e2⟩ := hT.at_
    rw [e1] at e2
    injection e2 with e2
    injection e2 with _ e3
    exact he e3
  exact ⟨us, ho.far hg (hne ho (by decide)), hr.1, fun r xs e => let ⟨u, a, c⟩ := hr.2.1 r xs e; ⟨u, a, c.far hg (hne c (by decide))⟩, hr.2.2⟩
set_option maxHeartbeats 6400000 in
set_option maxRecDepth 100000 in
theorem drawKV_calls (v : Value) (n : Nat) (w : World) (h : BytesR w v n) : Calls Try.prog 10 #[v] w fun e w' =>
    ∃ (s t : ByteArray) (u : Value) (xss : List (List Int)), e = .returned (.tuple #[.agg #[.string s, .string t], u]) ∧ s.size ≤ 400 ∧ t.size ≤ 400 ∧ OwnM w' w.heap.size u xss ∧ xss.length ≤ 4 ∧ (∀ xs ∈ xss, xs.length ≤ 3) ∧ Ext w w' := by
  have x0 := (Ext.refl w).alloc (.cells #[.string ⟨#[]⟩, .string ⟨#[]⟩] 25)
  have T0 := Lib.hid (heap_alloc_new w (.cells #[.string ⟨#[]⟩, .string ⟨#[]⟩] 25))
  have S0 : (w.alloc (.cells #[.string ⟨#[]⟩, .string ⟨#[]⟩] 25)).heap.size = w.heap.size + 1 := Array.size_push _
  have c0 := Cur.new (h.ext x0) S0
  have X1 := Lib.hid (x0.alloc (.cells #[v, .int .i64 0, .int .u64 0] 88))
  have P1 := Lib.hid (pair_calls (w.heap.size + 1) 50000 3 (by omega) _ (c0.less (by omega)))
  have T0 := Lib.hid (((Ext.refl (w.alloc (.cells #[.string ⟨#[]⟩, .string ⟨#[]⟩] 25))).alloc (.cells #[v, .int .i64 0, .int .u64 0] 88)).at T0.out)
  have P2 := Lib.hid (fun W hh => product_calls (w.heap.size + 1) 100 W hh)
  obtain ⟨A, c, rfl, _, _⟩ := h
  clear x0 S0 c0
  go_enter Try.func10, Try.ntmps10
  go_wp2_with fail
  generalize (w.alloc (.cells #[.string ⟨#[]⟩, .string ⟨#[]⟩] 25)).alloc (.cells #[.slice A n c, .int .i64 0, .int .u64 0] 88) = W at *
  refine (P1.out).mono ?_
  rintro e w1 ⟨s, t, hs, ht, rfl, hc, hm⟩
  have M1 := Lib.hid hm
  have P3 := Lib.hid (P2.out w1 (hc.less (by omega)))
  have T0 := Lib.hid (hm.at (by omega) T0.out)
  have HST := Lib.hid (And.intro hs ht)
  have X1 := Lib.hid (hm.ext X1.out (by omega))
  clear hc hm hs ht
  go_wp2_with fail
  refine (P3.out).mono ?_
  rintro e w2 ⟨u, xss, rfl, hom, hl, hr, _, hc, hm⟩
  have T0 := hm.at (by omega) T0.out
  have X2 := hm.ext X1.out (by omega)
  have OM := Lib.hid (hom.mono X1.out.size)
  obtain ⟨k0, k1⟩ := cells_of T0
  obtain ⟨f0, f1⟩ := frozen_of T0
  obtain ⟨hc0, hc1⟩ := cells_of (set2_heap (g := w.heap.size) ⟨_, _, T0⟩ (.string s) (.string t))
  have T2 : Two w2 w.heap.size 25 := ⟨_, _, T0⟩
  have OM := Lib.hid (hom.set2 T2 (s := .string s) (t := .string t))
  have OM := Lib.hid (OM.out.mono X1.out.size)
  have X3 := Lib.hid (X2.set2 (Nat.le_refl _) (.string s) (.string t))
  have HL := Lib.hid (And.intro hl hr)
  clear hom hc hm X2 T0 T2 hl hr
  go_wp2_with fail
  change bodyPost _ _ _ _ _ (N.set2 w2 w.heap.size (.string s) (.string t))
  exact bodyPost_ret (v := .tuple #[.agg #[.string s, .string t], u]) (by simp [results, Try.results10, go_sem, hc0, hc1]) rfl ⟨s, t, u, xss, rfl, HST.out.1, HST.out.2, OM.out, HL.out.1, HL.out.2, X3.out⟩

theorem OwnM.mv {w w' : World} {b g m : Nat} {v : Value} {xss : List (List Int)} (h : OwnM w b v xss) (c : Cur w g m) (hm : Mv g w w') : OwnM w' b v xss := by
  obtain ⟨us, ho, hr⟩ := h
  exact ⟨us, ho.mv c (by decide) hm, hr.mv c hm⟩
theorem OwnM.form {w : World} {b : Nat} {v : Value} {xss : List (List Int)} (h : OwnM w b v xss) : ∃ A c, v = .slice A xss.length c := by
  obtain ⟨us, ho, hr⟩ := h
  obtain ⟨A, c, e, _⟩ := ho.reads
  exact ⟨A, c, by rw [e, hr.1]⟩
/-- The first cell of a row is set. -/
theorem Own.set0 {w : World} {b : Nat} {v : Value} {xs : List Int} (h : Own w b 3 v (ints xs)) (h0 : 0 < xs.length) : ∃ b0 c0 z, v = .slice (some ⟨b0, 0, none⟩) xs.length c0 ∧ b ≤ b0 ∧ w.cell? ⟨b0, 0, none⟩ = some (.int .i64 z) ∧ w.frozen? ⟨b0, 0, none⟩ = false ∧
    ∀ w' y, Own w' b 3 v (ints xs) → Own (w'.setCell ⟨b0, 0, none⟩ (.int .i64 y)) b 3 v (ints (xs.set 0 y)) := by
  have h' := h
  rcases h.2 with ⟨rfl, h1⟩ | ⟨g, cap, cur, rfl, hb, _⟩
  · rw [ints_length] at h1; omega
  · refine ⟨g, cap, xs[0], by rw [ints_length], hb, ?_, ?_, fun w' y o => ?_⟩
    · have h2 := h'
      unfold Own at h2
      rw [ints_length] at h2
      rw [World.ownsRow.cellAt h2 0 (by omega)]
      exact ints_get xs 0 (by omega)
    · exact World.ownsRow.frozenAt h' 0
    · have o2 := o
      unfold Own at o2 ⊢
      have := (World.ownsRow.stored o2 0 (.int .i64 y)).1
      rw [ints_length] at this ⊢
      rw [ints_length, List.length_set]
      have e2 : (ints xs).set 0 (.int .i64 y) = ints (xs.set 0 y) := by simp [ints, List.map_set]
      rw [← e2]
      exact this
set_option maxHeartbeats 6400000 in
set_option maxRecDepth 100000 in
theorem drawVT_calls (v : Value) (n : Nat) (w : World) (h : BytesR w v n) : Calls Try.prog 20 #[v] w fun e w' =>
    ∃ (s : ByteArray) (u : Value) (xss : List (List Int)) (r : Value) (xs : List Int), e = .returned (.tuple #[.string s, u, r]) ∧ s.size ≤ 400 ∧ OwnM w' w.heap.size u xss ∧ xss.length ≤ 4 ∧ (∀ xs ∈ xss, xs.length ≤ 3) ∧ Own w' w.heap.size 3 r (ints xs) ∧ xs.length ≤ 401 ∧ Ext w w' := by
  have c0 := Cur.new h rfl
  have X1 := Lib.hid ((Ext.refl w).alloc (.cells #[v, .int .i64 0, .int .u64 0] 88))
  have P1 := Lib.hid (tree_calls w.heap.size 50000 6 (by omega) _ (c0.less (by omega)))
  have P2 := Lib.hid (fun W hh => product_calls w.heap.size 20000 W hh)
  have PP := Lib.hid (fun k n (hn : n ≤ 1000000000) W (hh : Cur W w.heap.size (k + 2)) => pick_calls w.heap.size k n hn W hh)
  have PO := Lib.hid (fun k n (hn : n ≤ 1000000000) W (hh : Cur W w.heap.size (k + 2)) => one_calls w.heap.size k n hn W hh)
  obtain ⟨A, c, rfl, _, _⟩ := h
  clear c0
  go_enter Try.func20, Try.ntmps20
  go_wp2_with fail
  generalize w.alloc (.cells #[.slice A n c, .int .i64 0, .int .u64 0] 88) = W at *
  generalize hg : w.heap.size = g at *
  have HG : Hid (w.heap.size ≤ g) := by show _ ≤ _; omega
  refine (P1.out).mono ?_
  rintro e w1 ⟨s, hs, rfl, hc, hm⟩
  have P3 := Lib.hid (P2.out w1 (hc.less (by omega)))
  have X1 := Lib.hid (hm.ext X1.out HG.out)
  have HS := Lib.hid hs
  clear hc hm hs
  go_wp2_with fail
  refine (P3.out).mono ?_
  rintro e w2 ⟨u, xss, rfl, hom, hl, hr, hp, hc, hm⟩
  have X2 := Lib.hid (hm.ext X1.out HG.out)
  have OM : Hid (OwnM w2 w.heap.size u xss) := hom.mono X1.out.size
  have HC2 := Lib.hid hc
  obtain ⟨A2, d2, rfl⟩ := hom.form
  have HL := Lib.hid (And.intro hl hr)
  have CC := Lib.hid (fun W => trCarets_calls s (by have := HS.out; omega) W)
  obtain ⟨q, hq⟩ : ∃ q : Nat, cnt s.toList = q := ⟨_, rfl⟩
  rw [hq] at CC
  have q4 : (q : Int) ≤ 400 := by have := cnt_le s.toList; rw [show s.toList.length = s.size from by rw [ByteArray.toList_eq, Array.length_toList]; rfl] at this; have := HS.out; omega
  have GW : Hid (g < w2.heap.size) := hc.lt
  clear hom hc hm hr hq
  have l4 : (xss.length : Int) ≤ 4 := by omega
  have l1 : (1 : Int) ≤ xss.length := by omega
  go_wp2_with fail
  go_loopw [8, 9] (fun o i wr => ∃ (k : Nat) (xs : List Int), i = .int .i64 k ∧ k ≤ q + 1 ∧ xs.length = k ∧ Hid (Own wr w2.heap.size 3 o (ints xs)) ∧ Hid (Cur wr g (100 + 2 * (402 - k))) ∧ Hid (Mv g w2 wr)) (fun _ i _ => q + 1 - (intOf i).toNat)
  case atStart => exact ⟨0, [], rfl, Nat.zero_le _, rfl, Own.nil _ _ _, HC2.out.less (by omega), Mv.refl _ _⟩
  case round =>
    obtain ⟨k, xs, rfl, hk, hxl, HO, HC, HM⟩ := hrel
    have k0 : (0 : Int) ≤ k := by omega
    by_cases hlt : k ≤ q
    · have k1 : (k : Int) ≤ q := by omega
      have P5 := Lib.hid (PP.out (100 + 2 * (402 - (k + 1))) xss.length (by omega) wr (HC.out.less (by omega)))
      go_wp2_with fail
      refine (CC.out _).mono ?_
      rintro e w3 ⟨rfl, rfl⟩
      go_wp2_with fail
      refine (P5.out).mono ?_
      rintro e w4 ⟨x, rfl, hx, hc, hm⟩
      have O1 := HO.out.mv HC.out (by decide) hm
      have xa := (Ext.refl w4).alloc (.cells #[.int .i64 x] 3)
      have O2 := O1.ext xa
      have RL : Hid (Reads (w4.alloc (.cells #[.int .i64 x] 3)) (.slice (some ⟨w4.heap.size, 0, none⟩) 1 1) (ints [(x : Int)])) := (Own.lit w4 0 3 #[.int .i64 x] (Nat.zero_le _) (by show 1 ≤ maxLen; decide)).reads
      have LL : Hid (((ints xs).length + (ints [(x : Int)]).length) * 8 ≤ 140737488355328) := by show _ ≤ _; rw [ints_length, ints_length]; simp only [List.length_singleton]; omega
      have M4 := HM.out.trans (hm.trans (xa.mv g))
      have BB1 := Lib.hid M4.size
      go_wp2_with (at_builtin; refine wpList_app rfl (.tmp 23) (.tmp 28) 32 rfl w2.heap.size 3 (.int .i64 0) 8 Try.underlying32 infoInt rfl (by omega) _ _ _ (ints [(x : Int)]) rfl rfl O2 RL.out (ints_one _) LL.out BB1.out ?_; intro v4 w5 o4 g4 _)
      have gk := O2.lo
      have HM4 := Lib.hid (M4.grown g4 gk)
      have HC4 := Lib.hid ((hc.ext xa).grown g4 (fun k hk => Nat.lt_of_lt_of_le GW.out (gk k hk)))
      rw [ints_append] at o4
      have O4 := Lib.hid o4
      clear o4 g4 O2 gk xa hc hm M4 O1
      go_wp2_with fail
      exact ⟨⟨k + 1, xs ++ [(x : Int)], by go_num, by omega, by simp [hxl], O4.out, HC4.out, HM4.out⟩, by simp [intOf]; omega⟩
    · have k1 : ¬ ((k : Int) ≤ q) := by omega
      have P5 := Lib.hid (PO.out 50 10 (by omega) wr (HC.out.less (by omega)))
      go_wp2_with fail
      refine (CC.out _).mono ?_
      rintro e w3 ⟨rfl, rfl⟩
      go_wp2_with fail
      refine (P5.out).mono ?_
      rintro e w4 ⟨b, rfl, hc, hm⟩
      have O1 := HO.out.mv HC.out (by decide) hm
      have M1 := Lib.hid (HM.out.trans hm)
      have O1 := Lib.hid O1
      have FINL : Hid (xs.length ≤ 401) := by show _ ≤ _; have := q4; omega
      have HC4 := Lib.hid hc
      have SB : Hid (w.heap.size ≤ w2.heap.size) := by show _ ≤ _; have := GW.out; omega
      clear hc hm P5
      cases b
      · go_wp2_with fail
        go_ret3
        exact ⟨s, _, xss, _, xs, rfl, HS.out, OM.out.mv HC2.out M1.out, HL.out.1, HL.out.2, O1.out.mono SB.out, FINL.out, M1.out.ext X2.out HG.out⟩
      · obtain ⟨b0, e0, z, rfl, hb0, cb, fb, st⟩ := O1.out.set0 (by omega)
        have xa := (Ext.refl w4).alloc (.cells #[.int .i64 (-1), .int .i64 xss.length] 3)
        have RDL : Reads (w4.alloc (.cells #[.int .i64 (-1), .int .i64 xss.length] 3)) (.slice (some ⟨w4.heap.size, 0, none⟩) 2 2) (ints [-1, (xss.length : Int)]) := (Own.lit w4 0 3 #[.int .i64 (-1), .int .i64 xss.length] (Nat.zero_le _) (by show 2 ≤ maxLen; decide)).reads
        have CA := Lib.hid (among_calls g 10 [-1, (xss.length : Int)] (by simp) (by simp) (.slice (some ⟨w4.heap.size, 0, none⟩) 2 2) _ RDL (by
          have := HC4.out.lt
          simp only [Value.ownBlock]
          intro e
          injection e with e
          omega) ((HC4.out.less (by omega)).ext xa))
        have MA := Lib.hid (M1.out.trans (xa.mv g))
        have O2 := Lib.hid (O1.out.ext xa)
        have CA4 := Lib.hid (HC4.out.ext xa)
        have gb : g ≠ b0 := by have := GW.out; omega
        have ST := Lib.hid st
        have xs0 : (0 : Int) < xs.length := by omega
        have xsn : 0 < xs.length := by omega
        clear xa RDL cb fb st O1 HO
        go_wp2_with fail
        refine (CA.out).mono ?_
        rintro e w5 ⟨x, hx, rfl, hc, hm⟩
        have O5 := O2.out.mv CA4.out (by decide) hm
        have M5 := MA.out.trans hm
        obtain ⟨b1, e1, z1, eq1, hb1, cb1, fb1, _⟩ := O5.set0 (by omega)
        injection eq1 with eq1 _ e3
        subst e3
        injection eq1 with eq1
        injection eq1 with eq1 _
        subst eq1
        have M6 := Lib.hid (M5.set1 hb1 (.int .i64 x) (i := 0))
        have O6 := Lib.hid (ST.out w5 x O5)
        clear hc hm M5 O5
        go_wp2_with fail
        generalize w5.setCell ⟨b0, 0, none⟩ (.int .i64 x) = w6 at *
        go_ret3
        exact ⟨s, _, xss, _, xs.set 0 x, rfl, HS.out, OM.out.mv HC2.out M6.out, HL.out.1, HL.out.2, by
          have := O6.out.mono SB.out; rw [hxl] at this; exact this, by rw [List.length_set]; exact FINL.out, M6.out.ext X2.out HG.out⟩

set_option maxHeartbeats 6400000 in
set_option maxRecDepth 100000 in
theorem drawBT_calls (v : Value) (n : Nat) (w : World) (h : BytesR w v n) : Calls Try.prog 22 #[v] w fun e w' =>
    ∃ (s t : ByteArray), e = .returned (.tuple #[.string s, .string t]) ∧ s.size ≤ 400 ∧ t.size ≤ 1000 ∧ Ext w w' := by
  have c0 := Cur.new h rfl
  have X1 := Lib.hid ((Ext.refl w).alloc (.cells #[v, .int .i64 0, .int .u64 0] 88))
  have P1 := Lib.hid (tree_calls w.heap.size 50000 6 (by omega) _ (c0.less (by omega)))
  have PF := Lib.hid (fun k v W hv hb (hh : Cur W w.heap.size (k + 2)) => of_calls w.heap.size k [⟨#[97]⟩, ⟨#[98]⟩, ⟨#[99]⟩, ⟨#[120]⟩, ⟨#[121]⟩, ⟨#[122]⟩] (by simp) (by simp) v W hv hb hh)
  have PO := Lib.hid (fun k n (hn : n ≤ 1000000000) W (hh : Cur W w.heap.size (k + 2)) => one_calls w.heap.size k n hn W hh)
  have PS := Lib.hid (fun k s (hs : s.size ≤ 1000000) W (hh : Cur W w.heap.size (k + 14)) => spoilt_calls w.heap.size k s (S [97, 90, 46, 40]) hs (by rw [S_size]; decide) (by rw [S_size]; decide) W hh)
  obtain ⟨A, c, rfl, _, _⟩ := h
  clear c0
  go_enter Try.func22, Try.ntmps22
  go_wp2_with fail
  generalize w.alloc (.cells #[.slice A n c, .int .i64 0, .int .u64 0] 88) = W at *
  generalize hg : w.heap.size = g at *
  have HG : Hid (w.heap.size ≤ g) := by show _ ≤ _; omega
  refine (P1.out).mono ?_
  rintro e w1 ⟨s, hs, rfl, hc, hm⟩
  have X1 := Lib.hid (hm.ext X1.out HG.out)
  have HS := Lib.hid hs
  have HC1 := Lib.hid hc
  have CC := Lib.hid (fun W => trCarets_calls s (by have := HS.out; omega) W)
  obtain ⟨q, hq⟩ : ∃ q : Nat, cnt s.toList = q := ⟨_, rfl⟩
  rw [hq] at CC
  have q4 : (q : Int) ≤ 400 := by have := cnt_le s.toList; rw [show s.toList.length = s.size from by rw [ByteArray.toList_eq, Array.length_toList]; rfl] at this; have := HS.out; omega
  clear hc hm hs hq
  go_wp2_with fail
  go_loopw [6, 7] (fun o i wr => ∃ (k : Nat) (t : ByteArray), i = .int .i64 k ∧ o = .string t ∧ k ≤ q + 1 ∧ t.size = k ∧ Hid (Cur wr g (100 + 2 * (402 - k))) ∧ Hid (Mv g w1 wr)) (fun _ i _ => q + 1 - (intOf i).toNat)
  case atStart => exact ⟨0, ⟨#[]⟩, rfl, rfl, Nat.zero_le _, rfl, HC1.out.less (by omega), Mv.refl _ _⟩
  case round =>
    obtain ⟨k, t, rfl, rfl, hk, htl, HC, HM⟩ := hrel
    have k0 : (0 : Int) ≤ k := by omega
    by_cases hlt : k ≤ q
    · have k1 : (k : Int) ≤ q := by omega
      have xa := (Ext.refl wr).alloc (.cells #[.string ⟨#[97]⟩, .string ⟨#[98]⟩, .string ⟨#[99]⟩, .string ⟨#[120]⟩, .string ⟨#[121]⟩, .string ⟨#[122]⟩] 9)
      have RDL : Reads (wr.alloc (.cells #[.string ⟨#[97]⟩, .string ⟨#[98]⟩, .string ⟨#[99]⟩, .string ⟨#[120]⟩, .string ⟨#[121]⟩, .string ⟨#[122]⟩] 9)) (.slice (some ⟨wr.heap.size, 0, none⟩) 6 6) (strs [⟨#[97]⟩, ⟨#[98]⟩, ⟨#[99]⟩, ⟨#[120]⟩, ⟨#[121]⟩, ⟨#[122]⟩]) := (Own.lit wr 0 9 #[.string ⟨#[97]⟩, .string ⟨#[98]⟩, .string ⟨#[99]⟩, .string ⟨#[120]⟩, .string ⟨#[121]⟩, .string ⟨#[122]⟩] (Nat.zero_le _) (by show 6 ≤ maxLen; decide)).reads
      have P5 := Lib.hid (PF.out (100 + 2 * (402 - (k + 1))) _ _ RDL (by
        have := HC.out.lt
        simp only [Value.ownBlock]
        intro e
        injection e with e
        omega) ((HC.out.less (by omega)).ext xa))
      have MA := Lib.hid (HM.out.trans (xa.mv g))
      have ts : (t.size : Int) ≤ 1000 := by omega
      clear xa RDL
      go_wp2_with fail
      refine (CC.out _).mono ?_
      rintro e w3 ⟨rfl, rfl⟩
      go_wp2_with fail
      refine (P5.out).mono ?_
      rintro e w4 ⟨x, hx, rfl, hc, hm⟩
      have HX : Hid (x.size = 1) := by
        show _ = _
        simp at hx
        rcases hx with rfl | rfl | rfl | rfl | rfl | rfl <;> rfl
      have HC := Lib.hid hc
      have HM := Lib.hid (MA.out.trans hm)
      have xs1 : (x.size : Int) ≤ 1 := by have := HX.out; omega
      clear hc hm hx
      go_wp2_with fail
      exact ⟨⟨k + 1, t ++ x, by go_num, rfl, by omega, by rw [ByteArray.size_append, htl, HX.out], HC.out, HM.out⟩, by simp [intOf]; omega⟩
    · have k1 : ¬ ((k : Int) ≤ q) := by omega
      have P5 := Lib.hid (PO.out 50 6 (by omega) wr (HC.out.less (by omega)))
      go_wp2_with fail
      refine (CC.out _).mono ?_
      rintro e w3 ⟨rfl, rfl⟩
      go_wp2_with fail
      refine (P5.out).mono ?_
      rintro e w4 ⟨b, rfl, hc, hm⟩
      have M1 := Lib.hid (HM.out.trans hm)
      have P6 := Lib.hid (PS.out 10 t (by omega) w4 (hc.less (by omega)))
      have TL : Hid (t.size ≤ 500) := by show _ ≤ _; omega
      clear hc hm P5
      cases b
      · go_wp2_with fail
        go_ret2
        exact ⟨s, t, rfl, HS.out, by have := TL.out; omega, M1.out.ext X1.out HG.out⟩
      · go_wp2_with fail
        refine (P6.out).mono ?_
        rintro e w5 ⟨r, hr, rfl, hc, hm⟩
        have HR := Lib.hid hr
        have M1 := Lib.hid (M1.out.trans hm)
        clear hc hm hr
        go_wp2_with fail
        go_ret2
        exact ⟨s, r, rfl, HS.out, by have := TL.out; have := HR.out; omega, M1.out.ext X1.out HG.out⟩

def bigB (n m : Nat) : Bool := !decide (n ≤ 1048576 ∧ m ≤ 1048576 - n)
theorem bigB_no {n m : Nat} (h : bigB n m = false) : n ≤ 1048576 ∧ m ≤ 1048576 := by
  unfold bigB at h
  simp at h
  omega
theorem big_calls (n m : Nat) (hm : m ≤ 9223372036854775807) (A B : Option Addr) (c d : Nat) (w : World) :
    Calls Try.prog 9 #[.slice A n c, .slice B m d] w fun e w' => e = .returned (.bool (bigB n m)) ∧ w = w' := by
  by_cases h : n ≤ 1048576
  · have h1 : ¬ ((1048576 : Int) < n) := by omega
    have h2 : (n : Int) ≤ 1048576 := by omega
    have h0 : (0 : Int) ≤ n := by omega
    by_cases k : m ≤ 1048576 - n
    · have k1 : ¬ ((1048576 : Int) - n < m) := by omega
      have hb : bigB n m = false := by unfold bigB; simp; omega
      rw [hb]
      clear hb
      go_enter Try.func9, Try.ntmps9
      go_wp2_with fail
      go_ret
      exact ⟨rfl, rfl⟩
    · have k1 : (1048576 : Int) - n < m := by omega
      have hb : bigB n m = true := by unfold bigB; simp; omega
      rw [hb]
      clear hb
      go_enter Try.func9, Try.ntmps9
      go_wp2_with fail
      go_ret
      exact ⟨rfl, rfl⟩
  · have h1 : (1048576 : Int) < n := by omega
    have hb : bigB n m = true := by unfold bigB; simp; omega
    rw [hb]
    clear hb
    go_enter Try.func9, Try.ntmps9
    go_wp2_with fail
    go_ret
    exact ⟨rfl, rfl⟩
end Go.Proofs.Ytpmmajfdcicjiaa.N
