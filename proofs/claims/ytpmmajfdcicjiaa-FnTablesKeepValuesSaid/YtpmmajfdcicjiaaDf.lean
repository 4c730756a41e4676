import Derived.Test.YtpmmajfdcicjiaaBa
import Derived.Test.YtpmmajfdcicjiaaPu
import Derived.Test.YtpmmajfdcicjiaaSl
import Derived.Test.YtpmmajfdcicjiaaProg
import Derived.Test.YtpmmajfdcicjiaaWl
import Derived.Test.YtpmmajfdcicjiaaPp
import Derived.Test.YtpmmajfdcicjiaaTs
import Derived.Test.YtpmmajfdcicjiaaPx
import Derived.Test.YtpmmajfdcicjiaaPg
import Derived.Test.YtpmmajfdcicjiaaSx
import Derived.Test.YtpmmajfdcicjiaaSg
import Derived.Test.YtpmmajfdcicjiaaTn
import Derived.Test.YtpmmajfdcicjiaaTp
import Derived.Test.YtpmmajfdcicjiaaTr
import Derived.Test.YtpmmajfdcicjiaaTu
import Derived.Test.YtpmmajfdcicjiaaTg
import Derived.Test.YtpmmajfdcicjiaaDa
import Derived.Test.YtpmmajfdcicjiaaWt
import Derived.Test.YtpmmajfdcicjiaaWu
import Derived.Test.YtpmmajfdcicjiaaVt
import Derived.Test.YtpmmajfdcicjiaaVu
import Derived.Test.YtpmmajfdcicjiaaVv
import Derived.Test.YtpmmajfdcicjiaaVw
import Derived.Test.YtpmmajfdcicjiaaVx
import Derived.Test.YtpmmajfdcicjiaaKv
import Derived.Test.YtpmmajfdcicjiaaKw
import Derived.Test.YtpmmajfdcicjiaaLa
import Derived.Test.YtpmmajfdcicjiaaDb
import Derived.Test.YtpmmajfdcicjiaaDc
import Derived.Test.YtpmmajfdcicjiaaSb
import Derived.Test.YtpmmajfdcicjiaaTb
import Derived.Test.YtpmmajfdcicjiaaDd
import Derived.Test.YtpmmajfdcicjiaaDe
import Derived.OwnWalk
import Derived.Deep.LoopGhost
import Derived.Deep.RegionHeld3
import Derived.Deep.QuietTactic
import Derived.BigQuiet
import Derived.Deep.CutRange
/- FnTablesKeepValues: the walk. -/
namespace Go.Proofs.Ytpmmajfdcicjiaa.N
open Go.RowKit
set_option linter.unusedVariables false
set_option linter.unusedSimpArgs false

set_option maxHeartbeats 12800000 in
set_option maxRecDepth 100000 in
theorem walk_tables (n m : Nat) (v u : Value) (w : World) (hn : BytesR w v n) (hm : BytesR w u m) (hb : bigB n m = false) :
    Calls Try.prog 3 #[v, u] w fun e w' => e = .returned (.bool true) ∧ Ext w w' := by
  have CB := Lib.hid (fun A B c d W => big_calls n m (by obtain ⟨_, _, _, h, _⟩ := hm; omega) A B c d W)
  rw [hb] at CB
  have D1 := Lib.hid (drawKV_calls v n w hn)
  have D2 := Lib.hid (fun W (h : Ext w W) => drawVT_calls u m W (hm.ext h))
  have D3 := Lib.hid (fun W (h : Ext w W) => drawBT_calls u m W (hm.ext h))
  obtain ⟨A, c, rfl, _, _⟩ := hn
  obtain ⟨B, d, rfl, _, _⟩ := hm
  clear hb
  go_enter Try.func3, Try.ntmps3
  go_wp2_with fail
  refine (CB.out _ _ _ _ _).mono ?_
  rintro e w0 ⟨rfl, rfl⟩
  go_wp2_with fail
  refine (D1.out).mono ?_
  rintro e w1 ⟨s, t, tv, xss, rfl, hs, ht, om, hl, hr, x1⟩
  obtain ⟨keeps, ok, assoc, one, three, l, F⟩ := first_of s t xss (by have := total_le xss 3 hr; omega)
  have F := Lib.hid F
  have RM := Lib.hid om.reads
  have P0 := heap_alloc_new w1 (.cells #[.string s, .string t] 25)
  obtain ⟨k0, k1⟩ := cells_of P0
  have xa := (Ext.refl w1).alloc (.cells #[.string s, .string t] 25)
  have RM := Lib.hid (RM.out.ext xa)
  have X1 := Lib.hid (x1.trans xa)
  clear x1 xa om P0 hs ht hl hr
  go_wp2_with fail
  generalize w1.alloc (.cells #[.string s, .string t] 25) = W at *
  refine (F.out.k2 tv _ RM.out).mono ?_
  rintro e w2 ⟨rfl, x2⟩
  have k0 := x2.cell k0
  have k1 := x2.cell k1
  have RM := Lib.hid (RM.out.ext x2)
  have X1 := Lib.hid (X1.out.trans x2)
  clear x2
  go_wp2_with fail
  refine (F.out.k1 tv _ RM.out).mono ?_
  rintro e w3 ⟨rfl, x2⟩
  have RM := Lib.hid (RM.out.ext x2)
  have X1 := Lib.hid (X1.out.trans x2)
  clear x2 k0 k1
  go_wp2_with fail
  refine (F.out.a2 tv _ RM.out).mono ?_
  rintro e w4 ⟨rfl, x2⟩
  have RM := Lib.hid (RM.out.ext x2)
  have X1 := Lib.hid (X1.out.trans x2)
  clear x2
  go_wp2_with fail
  refine (F.out.a1 tv _ RM.out).mono ?_
  rintro e w5 ⟨rfl, x2⟩
  have RM := Lib.hid (RM.out.ext x2)
  have X1 := Lib.hid (X1.out.trans x2)
  clear x2
  go_wp2_with fail
  refine (F.out.f2 tv _ RM.out).mono ?_
  rintro e w6 ⟨v1, rfl, o1, x2⟩
  have RM := Lib.hid (RM.out.ext x2)
  have X1 := Lib.hid (X1.out.trans x2)
  have O1 := Lib.hid o1
  clear x2 o1
  go_wp2_with fail
  refine (F.out.f1 tv _ RM.out).mono ?_
  rintro e w7 ⟨v2, rfl, o2, x2⟩
  have RM := Lib.hid (RM.out.ext x2)
  have X1 := Lib.hid (X1.out.trans x2)
  have O1 := Lib.hid (O1.out.ext x2)
  have O2 := Lib.hid o2
  clear x2 o2
  have C5 := Lib.hid (fSame_calls l (by have := F.out.ll; omega) v1 v2 w7 O1.out.reads O2.out.reads)
  go_upto_region 10 with fail
  go_cut [139] from 88 (fun b wx => b = .bool false ∧ ∃ n, wx = w7.drewN n)
  case first =>
   as_aux_lemma =>
    have e1 := F.out.e1
    have e2 := F.out.e2
    have hcs : (one = false ∧ ok = false) ∨ (one = true ∧ ok = false) ∨ (one = true ∧ ok = true ∧ assoc = false) ∨ (one = true ∧ ok = true ∧ assoc = true ∧ keeps = true) := by
      cases one <;> cases ok <;> cases assoc <;> cases keeps <;> simp at e2 ⊢
    clear e2
    rcases hcs with ⟨rfl, rfl⟩ | ⟨rfl, rfl⟩ | ⟨rfl, rfl, rfl⟩ | ⟨rfl, rfl, rfl, rfl⟩
    all_goals
      simp only [Bool.false_and, Bool.true_and, Bool.not_false, Bool.not_true] at e1
      subst e1
      go_wp2_with fail
      refine (C5.out).mono ?_
      rintro e w8 ⟨rfl, n8, rfl⟩
      go_wp2_with fail
      go_meet
      exact ⟨rfl, n8, rfl⟩
  case rest =>
    obtain ⟨rfl, n8, rfl⟩ := hcut
    have x8 := (Ext.refl w7).drewN n8
    have RM := Lib.hid (RM.out.ext x8)
    have X1 := Lib.hid (X1.out.trans x8)
    have O1 := Lib.hid (O1.out.ext x8)
    clear x8 C5 O2
    generalize w7.drewN n8 = w8 at *
    have CG : Hid (∀ W, Calls Try.prog 18 #[.int .i64 0] W fun e w' => e = .returned (.tuple #[.agg #[.string (tx LLt), .string (tx RRt)], .bool true]) ∧ Ext W w') := fun W => GeneratorPair_yes 0 (by omega) W
    go_upto_if 140 with fail
    go_cut [] from 19 (fun wx => Ext w8 wx)
    case first =>
     as_aux_lemma =>
      cases one
      · go_wp2_with fail
        go_meet
        exact Ext.refl _
      · have G := Lib.hid (F.out.g1 rfl)
        go_wp2_with fail
        refine (CG.out _).mono ?_
        rintro e w9 ⟨rfl, x9⟩
        obtain ⟨k0, k1⟩ := cells_of (heap_alloc_new w9 (.cells #[.string (tx LLt), .string (tx RRt)] 25))
        have X9 := Lib.hid (x9.trans ((Ext.refl w9).alloc (.cells #[.string (tx LLt), .string (tx RRt)] 25)))
        generalize tx LLt = sl at *
        generalize tx RRt = sr at *
        clear x9
        go_wp2_with fail
        refine (G.out tv _ (RM.out.ext X9.out)).mono ?_
        rintro e w10 ⟨rfl, x10⟩
        have X10 := Lib.hid (X9.out.trans x10)
        clear x10 k0 k1
        go_wp2_with fail
        go_meet
        exact X10.out
    case rest =>
    have x9 := hcut
    have RM := Lib.hid (RM.out.ext x9)
    have X1 := Lib.hid (X1.out.trans x9)
    have O1 := Lib.hid (O1.out.ext x9)
    clear x9 hcut CG
    generalize wc = w9 at *
    go_upto_if 162 with fail
    go_cut [] from 23 (fun wx => Ext w9 wx)
    case first =>
     as_aux_lemma =>
      cases three
      · go_wp2_with fail
        go_meet
        exact Ext.refl _
      · obtain ⟨a, b, hab, h1, h2⟩ := F.out.v1 rfl
        have h1 : Hid (∀ W, Ext w9 W → Calls Try.prog 19 #[.string ⟨#[40, 40, 46, 46, 41, 46, 41]⟩, tv, v1] W (GivesIB W a true)) := fun W h => h1 tv v1 W (RM.out.ext h) (O1.out.rc.ext h)
        have h2 : Hid (∀ W, Ext w9 W → Calls Try.prog 19 #[.string ⟨#[40, 46, 40, 46, 46, 41, 41]⟩, tv, v1] W (GivesIB W b true)) := fun W h => h2 tv v1 W (RM.out.ext h) (O1.out.rc.ext h)
        go_wp2_with fail
        refine (h1.out _ (Ext.refl _)).mono ?_
        rintro e w10 ⟨rfl, x10⟩
        go_wp2_with fail
        refine (h2.out _ x10).mono ?_
        rintro e w11 ⟨rfl, x11⟩
        have X11 := Lib.hid (x10.trans x11)
        clear x10 x11 h1 h2
        go_wp2_with fail
        go_meet
        exact X11.out
    case rest =>
    have X1 := Lib.hid (X1.out.trans hcut)
    clear hcut RM O1 F
    generalize wc = w10 at *
    as_aux_lemma =>
    go_wp2_with fail
    refine (D2.out _ X1.out).mono ?_
    rintro e w11 ⟨s2, tv2, xss2, r2, xs2, rfl, hs, om, hl, hr, o2, hx, x11⟩
    obtain ⟨r, b, SE⟩ := second_of s2 xss2 xs2 (by have := total_le xss2 3 hr; omega) (by omega)
    have SE := Lib.hid SE
    have RM := Lib.hid om.reads
    have RX := Lib.hid o2.rc
    have X1 := Lib.hid (X1.out.trans x11)
    clear om o2 x11 hs hl hr hx
    go_wp2_with fail
    refine (SE.out.v2 _ _ _ RM.out RX.out).mono ?_
    rintro e w12 ⟨rfl, x2⟩
    have RM := Lib.hid (RM.out.ext x2)
    have RX := Lib.hid (RX.out.ext x2)
    have X1 := Lib.hid (X1.out.trans x2)
    clear x2
    go_wp2_with fail
    refine (SE.out.v1 _ _ _ RM.out RX.out).mono ?_
    rintro e w13 ⟨rfl, x2⟩
    have RM := Lib.hid (RM.out.ext x2)
    have RX := Lib.hid (RX.out.ext x2)
    have X1 := Lib.hid (X1.out.trans x2)
    clear x2
    go_wp2_with fail
    refine (D3.out _ X1.out).mono ?_
    rintro e w14 ⟨s3, t3, rfl, hs, ht, x2⟩
    obtain ⟨x, bb, BT1, BT2⟩ := both_BracketText s3 t3
    have BT1 := Lib.hid BT1
    have BT2 := Lib.hid BT2
    have RM := Lib.hid (RM.out.ext x2)
    have RX := Lib.hid (RX.out.ext x2)
    have X1 := Lib.hid (X1.out.trans x2)
    clear x2 hs ht
    go_wp2_with fail
    refine (BT2.out _).mono ?_
    rintro e w15 ⟨rfl, x2⟩
    have RM := Lib.hid (RM.out.ext x2)
    have RX := Lib.hid (RX.out.ext x2)
    have X1 := Lib.hid (X1.out.trans x2)
    clear x2
    go_wp2_with fail
    refine (BT1.out _).mono ?_
    rintro e w16 ⟨rfl, x2⟩
    have RM := Lib.hid (RM.out.ext x2)
    have RX := Lib.hid (RX.out.ext x2)
    have X1 := Lib.hid (X1.out.trans x2)
    clear x2 BT1 BT2
    cases b
    · go_wp2_with fail
      go_ret
      exact ⟨rfl, X1.out⟩
    · obtain ⟨fits, c2, u2, o2, h1, h2, h3, h4, h5⟩ := SE.out.more rfl
      have h1 := Lib.hid h1
      have h2 := Lib.hid h2
      have h3 := Lib.hid h3
      have h4 := Lib.hid h4
      have h5 := Lib.hid h5
      go_wp2_with fail
      refine (h1.out _ _ RM.out).mono ?_
      rintro e w17 ⟨rfl, x2⟩
      have RM := Lib.hid (RM.out.ext x2)
      have RX := Lib.hid (RX.out.ext x2)
      have X1 := Lib.hid (X1.out.trans x2)
      clear x2
      go_wp2_with fail
      refine (h2.out _).mono ?_
      rintro e w18 ⟨rfl, x2⟩
      have RM := Lib.hid (RM.out.ext x2)
      have RX := Lib.hid (RX.out.ext x2)
      have X1 := Lib.hid (X1.out.trans x2)
      clear x2
      go_wp2_with fail
      refine (h3.out _).mono ?_
      rintro e w19 ⟨rfl, x2⟩
      have RM := Lib.hid (RM.out.ext x2)
      have RX := Lib.hid (RX.out.ext x2)
      have X1 := Lib.hid (X1.out.trans x2)
      clear x2
      go_wp2_with fail
      refine (h4.out _ _ _ RM.out RX.out).mono ?_
      rintro e w20 ⟨rfl, x2⟩
      have X1 := Lib.hid (X1.out.trans x2)
      clear x2 RM RX h1 h2 h3 h4
      cases fits
      · go_wp2_with fail
        go_ret
        exact ⟨rfl, X1.out⟩
      · have h6 : (o2 == r) = true := by simpa using h5.out
        go_wp2_with fail
        go_ret
        exact ⟨rfl, X1.out⟩
end Go.Proofs.Ytpmmajfdcicjiaa.N
