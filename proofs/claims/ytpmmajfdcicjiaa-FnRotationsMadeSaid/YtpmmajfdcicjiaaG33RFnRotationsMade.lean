import Derived.Test.YtpmmajfdcicjiaaG1RFnRotationsMade
import Derived.Test.YtpmmajfdcicjiaaG2RFnRotationsMade
import Derived.Test.YtpmmajfdcicjiaaProg
import Derived.Test.YtpmmajfdcicjiaaG3RFnRotationsMade
import Derived.Test.YtpmmajfdcicjiaaG4RFnRotationsMade
import Derived.Test.YtpmmajfdcicjiaaG6RFnRotationsMade
import Derived.Test.YtpmmajfdcicjiaaG8RFnRotationsMade
import Derived.Test.YtpmmajfdcicjiaaG9RFnRotationsMade
import Derived.Test.YtpmmajfdcicjiaaG5RFnRotationsMade
import Derived.Test.YtpmmajfdcicjiaaG12RFnRotationsMade
import Derived.Test.YtpmmajfdcicjiaaG13RFnRotationsMade
import Derived.Test.YtpmmajfdcicjiaaG7RFnRotationsMade
import Derived.Test.YtpmmajfdcicjiaaG14RFnRotationsMade
import Derived.Test.YtpmmajfdcicjiaaG16RFnRotationsMade
import Derived.Test.YtpmmajfdcicjiaaG18RFnRotationsMade
import Derived.Test.YtpmmajfdcicjiaaG19RFnRotationsMade
import Derived.Test.YtpmmajfdcicjiaaG21RFnRotationsMade
import Derived.Test.YtpmmajfdcicjiaaG10RFnRotationsMade
import Derived.Test.YtpmmajfdcicjiaaG22RFnRotationsMade
import Derived.Test.YtpmmajfdcicjiaaG11RFnRotationsMade
import Derived.Test.YtpmmajfdcicjiaaG30RFnRotationsMade
import Derived.Test.YtpmmajfdcicjiaaG31RFnRotationsMade
import Derived.Test.YtpmmajfdcicjiaaG32RFnRotationsMade
import Derived.OwnWalk
import Derived.Deep.LoopGhost
import Derived.Deep.RegionHeld3
import Derived.Deep.QuietTactic
import Derived.BigQuiet
import Derived.Deep.CutRange
import Derived.Laws.Cover1
import Derived.Deep.Matrix
import Derived.Deep.Slices
import Derived.ChangeSlices
/- FnRotationsMade: the walk. -/
namespace Go.Proofs.Ytpmmajfdcicjiaa.N
open Go.RowKit
set_option linter.unusedVariables false
set_option linter.unusedSimpArgs false

theorem strs_cell {w : World} {A : Option Addr} {xs : List ByteArray} {c : Nat} (h : Reads w (.slice A xs.length c) (strs xs)) (k : Nat) (x : ByteArray) (hk : xs[k]? = some x) : ∃ ad, A = some ad ∧ w.cell? (ad.add k) = some (.string x) := by
  obtain ⟨A', c', e, _, rd⟩ := h
  injection e with e1 _ _
  have hl := (List.getElem?_eq_some_iff.1 hk).1
  obtain ⟨ad, ea, ca⟩ := rd (by rw [strs_length]; omega)
  refine ⟨ad, by rw [e1, ea], ca k _ ?_⟩
  rw [strs, List.getElem?_map, hk]; rfl
set_option maxHeartbeats 12800000 in
set_option maxRecDepth 100000 in
theorem walk_rotations (n m : Nat) (v u : Value) (w : World) (hn : BytesR w v n) (hm : BytesR w u m) (hb : bigB n m = false) :
    Calls Try.prog 5 #[v, u] w fun e w' => e = .returned (.bool true) ∧ Ext w w' := by
  have CB := Lib.hid (fun A B c d W => big_calls n m (by obtain ⟨_, _, _, h, _⟩ := hm; omega) A B c d W)
  rw [hb] at CB
  have D1 := Lib.hid (drawRP_calls v n w hn)
  have D2 := Lib.hid (fun W (h : Ext w W) => drawRB_calls u m W (hm.ext h))
  obtain ⟨A, c, rfl, _, _⟩ := hn
  obtain ⟨B, d, rfl, _, _⟩ := hm
  clear hb
  go_enter Try.func5, Try.ntmps5
  go_wp2_with fail
  refine (CB.out _ _ _ _ _).mono ?_
  rintro e w0 ⟨rfl, rfl⟩
  go_wp2_with fail
  refine (D1.out).mono ?_
  rintro e w1 ⟨t, s, ht, rfl, x1⟩
  obtain ⟨x, y, o, b, F⟩ := rotF_of t s
  have F := Lib.hid F
  have X1 := Lib.hid x1
  clear x1 ht
  go_wp2_with fail
  refine (F.out.p1 _).mono ?_
  rintro e w2 ⟨rfl, x2⟩
  have xa := (Ext.refl w2).alloc (.cells #[.string x, .string y] 25)
  obtain ⟨a0, a1⟩ := cells_of (heap_alloc_new w2 (.cells #[.string x, .string y] 25))
  have X2 := Lib.hid (X1.out.trans (x2.trans xa))
  clear x2 xa
  go_wp2_with fail
  generalize w2.alloc (.cells #[.string x, .string y] 25) = w3 at *
  refine (F.out.p2 _).mono ?_
  rintro e w4 ⟨rfl, x2⟩
  have xa := (Ext.refl w4).alloc (.cells #[.string x, .string y] 25)
  obtain ⟨b0, b1⟩ := cells_of (heap_alloc_new w4 (.cells #[.string x, .string y] 25))
  have a0 := (x2.trans xa).cell a0
  have a1 := (x2.trans xa).cell a1
  have X3 := Lib.hid (X2.out.trans (x2.trans xa))
  clear x2 xa
  go_wp2_with fail
  generalize w4.alloc (.cells #[.string x, .string y] 25) = w5 at *
  refine (F.out.r1 _).mono ?_
  rintro e w6 ⟨rfl, x2⟩
  have a0 := x2.cell a0
  have a1 := x2.cell a1
  have b0 := x2.cell b0
  have b1 := x2.cell b1
  have X4 := Lib.hid (X3.out.trans x2)
  clear x2
  go_wp2_with fail
  refine (F.out.r2 _).mono ?_
  rintro e w7 ⟨rfl, x2⟩
  have a0 := x2.cell a0
  have a1 := x2.cell a1
  have b0 := x2.cell b0
  have b1 := x2.cell b1
  have X5 := Lib.hid (X4.out.trans x2)
  clear x2
  go_upto_if 111 with fail
  go_cut [] from 15 (fun wx => Ext w7 wx)
  case first =>
   as_aux_lemma =>
    cases b
    · go_wp2_with fail
      go_meet
      exact Ext.refl _
    · obtain ⟨h1, h2⟩ := F.out.more rfl
      have h1 := Lib.hid h1
      have h2 := Lib.hid h2
      go_wp2_with fail
      refine (h1.out _).mono ?_
      rintro e w8 ⟨rfl, x8⟩
      have a0 := x8.cell a0
      have a1 := x8.cell a1
      have X8 := Lib.hid x8
      clear x8 b0 b1
      go_wp2_with fail
      refine (h2.out _).mono ?_
      rintro e w9 ⟨rfl, x9⟩
      have X9 := Lib.hid (X8.out.trans x9)
      clear x9 a0 a1
      go_wp2_with fail
      go_meet
      exact X9.out
  case rest =>
  have X6 := Lib.hid (X5.out.trans hcut)
  clear hcut a0 a1 b0 b1 F
  generalize wc = w8 at *
  as_aux_lemma =>
  go_wp2_with fail
  refine (D2.out _ X6.out).mono ?_
  rintro e w9 ⟨us, pl, hs, rfl, x2⟩
  obtain ⟨o2, b2, BK1, BK2⟩ := rotB_of us pl
  obtain ⟨ns, ps, cs, ct, b, last, N⟩ := rotN_of us
  have BK1 := Lib.hid BK1
  have BK2 := Lib.hid BK2
  have N := Lib.hid N
  have X1 := Lib.hid (X6.out.trans x2)
  clear x2 hs X6
  go_wp2_with fail
  refine (BK1.out _).mono ?_
  rintro e w10 ⟨rfl, x2⟩
  have X1 := Lib.hid (X1.out.trans x2)
  clear x2
  go_wp2_with fail
  refine (BK2.out _).mono ?_
  rintro e w11 ⟨rfl, x2⟩
  have X1 := Lib.hid (X1.out.trans x2)
  clear x2 BK1 BK2
  go_wp2_with fail
  refine (N.out.n1 _).mono ?_
  rintro e w12 ⟨nv1, rfl, on1, x2⟩
  obtain ⟨NA, nc, rfl, _, _⟩ := on1.reads
  rw [strs_length] at on1 ⊢
  have R1 := Lib.hid on1.reads
  have X1 := Lib.hid (X1.out.trans x2)
  clear x2 on1
  go_wp2_with fail
  refine (N.out.n2 _).mono ?_
  rintro e w13 ⟨nv2, rfl, on2, x2⟩
  have R1 := Lib.hid (R1.out.ext x2)
  have R2 := Lib.hid on2.reads
  have X1 := Lib.hid (X1.out.trans x2)
  clear x2 on2
  go_wp2_with fail
  refine (N.out.p1 _).mono ?_
  rintro e w14 ⟨pv1, rfl, op1, x2⟩
  obtain ⟨PA, pc, rfl, _, _⟩ := op1.reads
  rw [strs_length] at op1 ⊢
  have R1 := Lib.hid (R1.out.ext x2)
  have R2 := Lib.hid (R2.out.ext x2)
  have R3 := Lib.hid op1.reads
  have X1 := Lib.hid (X1.out.trans x2)
  clear x2 op1
  go_wp2_with fail
  refine (N.out.p2 _).mono ?_
  rintro e w15 ⟨pv2, rfl, op2, x2⟩
  have R1 := Lib.hid (R1.out.ext x2)
  have R2 := Lib.hid (R2.out.ext x2)
  have R3 := Lib.hid (R3.out.ext x2)
  have R4 := Lib.hid op2.reads
  have X1 := Lib.hid (X1.out.trans x2)
  clear x2 op2
  go_wp2_with fail
  refine (N.out.c1 _).mono ?_
  rintro e w16 ⟨rfl, x2⟩
  have R1 := Lib.hid (R1.out.ext x2)
  have R2 := Lib.hid (R2.out.ext x2)
  have R3 := Lib.hid (R3.out.ext x2)
  have R4 := Lib.hid (R4.out.ext x2)
  have X1 := Lib.hid (X1.out.trans x2)
  clear x2
  go_wp2_with fail
  refine (N.out.c2 _).mono ?_
  rintro e w17 ⟨rfl, x2⟩
  have R1 := Lib.hid (R1.out.ext x2)
  have R2 := Lib.hid (R2.out.ext x2)
  have R3 := Lib.hid (R3.out.ext x2)
  have R4 := Lib.hid (R4.out.ext x2)
  have X1 := Lib.hid (X1.out.trans x2)
  clear x2
  have LN := N.out.ln
  go_wp2_with fail
  refine (fTexts_calls ns (by omega) _ _ _ R1.out R2.out).mono ?_
  rintro e w18 ⟨rfl, n18, rfl⟩
  have x2 : Ext w17 (w17.drewN n18) := (Ext.refl _).drewN _
  have R1 := Lib.hid (R1.out.ext x2)
  have R3 := Lib.hid (R3.out.ext x2)
  have R4 := Lib.hid (R4.out.ext x2)
  have X1 := Lib.hid (X1.out.trans x2)
  clear x2 R2
  generalize w17.drewN n18 = w18 at *
  go_wp2_with fail
  refine (fTexts_calls ps (by omega) _ _ _ R3.out R4.out).mono ?_
  rintro e w19 ⟨rfl, n19, rfl⟩
  have x2 : Ext w18 (w18.drewN n19) := (Ext.refl _).drewN _
  have R1 := Lib.hid (R1.out.ext x2)
  have R3 := Lib.hid (R3.out.ext x2)
  have X1 := Lib.hid (X1.out.trans x2)
  clear x2 R4
  generalize w18.drewN n19 = w19 at *
  go_upto_if 238 with fail
  go_cut [] from 37 (fun wx => Ext w19 wx)
  case first =>
   as_aux_lemma =>
    cases b
    · go_wp2_with fail
      go_meet
      exact Ext.refl _
    · have LE := N.out.len rfl
      have lq : ((ns.length : Int) == (ct : Int)) = true := by rw [LE]; simp
      have lq2 : ((ns.length : Int) != (ct : Int)) = false := by rw [LE]; simp
      have lni : (ns.length : Int) ≤ 1000 := by omega
      have lpi : (ps.length : Int) ≤ 1000 := by omega
      have LN := Lib.hid LN
      clear LE
      go_wp2_with fail
      go_loopw [245] (fun i wr => ∃ k : Nat, k ≤ ns.length ∧ i = .int .i64 k ∧ Hid (Ext w19 wr)) (fun i _ => ns.length - (intOf i).toNat)
      case atStart => exact ⟨0, Nat.zero_le _, rfl, Ext.refl _⟩
      case round =>
        obtain ⟨k, hk, rfl, HX⟩ := hrel
        generalize wr = wi at *
        have k0 : (0 : Int) ≤ k := by omega
        by_cases hlt : k < ns.length
        · have k1 : (k : Int) < ns.length := by omega
          obtain ⟨z, hz⟩ : ∃ z, ns[k]? = some z := ⟨_, List.getElem?_eq_getElem hlt⟩
          obtain ⟨bs, hbl, hub, CN⟩ := N.out.near k z hz
          have CN := Lib.hid CN
          have FH := Lib.hid (fun v W h => fHas_calls bs (by omega) us hub v W h)
          have R1 := Lib.hid (R1.out.ext HX.out)
          have HZ := Lib.hid hz
          obtain ⟨ad, rfl, ca⟩ := strs_cell R1.out k z hz
          clear hbl hub hz
          go_wp2_with fail
          refine (CN.out _).mono ?_
          rintro e w20 ⟨bv, rfl, ob, x20⟩
          have X20 := Lib.hid (HX.out.trans x20)
          have FH2 := Lib.hid (FH.out bv w20 ob.reads)
          have R1 := Lib.hid (R1.out.ext x20)
          clear ob x20 ca FH
          by_cases hk0 : k = 0
          · have kz : ¬ ((0 : Int) < k) := by omega
            go_wp2_with fail
            refine (FH2.out).mono ?_
            rintro e w21 ⟨rfl, rfl⟩
            go_wp2_with fail
            exact ⟨⟨k + 1, by omega, by go_num, X20.out⟩, by simp [intOf]; omega⟩
          · have kp : (0 : Int) < k := by omega
            obtain ⟨j, hj⟩ : ∃ j : Nat, k = j + 1 := ⟨k - 1, by omega⟩
            have ej : (k : Int) - 1 = (j : Int) := by omega
            have j0 : (0 : Int) ≤ j := by omega
            have j1 : (j : Int) < ns.length := by omega
            obtain ⟨y2, hy2⟩ : ∃ y2, ns[j]? = some y2 := ⟨_, List.getElem?_eq_getElem (by omega)⟩
            have lt := N.out.lt j y2 z hy2 (by rw [← hj]; exact HZ.out)
            obtain ⟨ad2, e2, cb⟩ := strs_cell R1.out j y2 hy2
            injection e2 with e2
            subst e2
            clear hy2 hj
            go_wp2_with fail
            refine (FH2.out).mono ?_
            rintro e w21 ⟨rfl, rfl⟩
            go_wp2_with fail
            exact ⟨⟨k + 1, by omega, by go_num, X20.out⟩, by simp [intOf]; omega⟩
        · have k1 : (ns.length : Int) ≤ k := by omega
          go_wp2_with fail
          go_loopw [279] (fun i wr => ∃ q : Nat, q ≤ ps.length ∧ i = .int .i64 q ∧ Hid (Ext w19 wr)) (fun i _ => ps.length - (intOf i).toNat)
          case atStart => exact ⟨0, Nat.zero_le _, rfl, HX.out⟩
          case round =>
            obtain ⟨q, hq, rfl, HY⟩ := hrel
            generalize wr = wq at *
            have q0 : (0 : Int) ≤ q := by omega
            by_cases hql : q < ps.length
            · have q1 : (q : Int) < ps.length := by omega
              obtain ⟨z, hz⟩ : ∃ z, ps[q]? = some z := ⟨_, List.getElem?_eq_getElem hql⟩
              obtain ⟨o3, ho, CR⟩ := N.out.place q z hz
              have CR := Lib.hid CR
              have FH := Lib.hid (fun W h => fHas_calls ns (by have := LN.out; omega) o3 ho (.slice NA ns.length nc) W h)
              have R3 := Lib.hid (R3.out.ext HY.out)
              obtain ⟨ad, rfl, ca⟩ := strs_cell R3.out q z hz
              clear ho hz
              go_wp2_with fail
              refine (CR.out _).mono ?_
              rintro e w20 ⟨rfl, x20⟩
              have X20 := Lib.hid (HY.out.trans x20)
              have FH2 := Lib.hid (FH.out w20 (R1.out.ext X20.out))
              clear x20 ca FH
              go_wp2_with fail
              refine (FH2.out).mono ?_
              rintro e w21 ⟨rfl, rfl⟩
              go_wp2_with fail
              exact ⟨⟨q + 1, by omega, by go_num, X20.out⟩, by simp [intOf]; omega⟩
            · have q1 : (ps.length : Int) ≤ q := by omega
              go_wp2_with fail
              go_meet
              exact HY.out
  case rest =>
  have X1 := Lib.hid (X1.out.trans hcut)
  clear hcut R1 R3 LN
  generalize wc = w20 at *
  as_aux_lemma =>
  have LN := N.out.ln
  have lci : (cs.length : Int) ≤ 1000 := by omega
  go_wp2_with fail
  refine (N.out.k1 _).mono ?_
  rintro e w21 ⟨cv1, rfl, oc1, x2⟩
  obtain ⟨CA, cc, rfl, _, _⟩ := oc1.reads
  rw [strs_length] at oc1 ⊢
  have R1 := Lib.hid oc1.reads
  have X1 := Lib.hid (X1.out.trans x2)
  clear x2 oc1
  go_wp2_with fail
  refine (N.out.k2 _).mono ?_
  rintro e w22 ⟨cv2, rfl, oc2, x2⟩
  have R1 := Lib.hid (R1.out.ext x2)
  have R2 := Lib.hid oc2.reads
  have X1 := Lib.hid (X1.out.trans x2)
  clear x2 oc2
  go_wp2_with fail
  refine (fTexts_calls cs (by omega) _ _ _ R1.out R2.out).mono ?_
  rintro e w23 ⟨rfl, n23, rfl⟩
  have x2 : Ext w22 (w22.drewN n23) := (Ext.refl _).drewN _
  have R1 := Lib.hid (R1.out.ext x2)
  have X1 := Lib.hid (X1.out.trans x2)
  clear x2 R2
  generalize w22.drewN n23 = w23 at *
  cases b
  · go_wp2_with fail
    go_ret
    exact ⟨rfl, X1.out⟩
  · obtain ⟨cl0, ch, cla, mm, CO, RC⟩ := N.out.ends rfl
    have CO := Lib.hid CO
    have RC := Lib.hid RC
    have CH := Lib.hid ch
    have CLA := Lib.hid cla
    obtain ⟨q, hq⟩ : ∃ q : Nat, cs.length - 1 = q := ⟨_, rfl⟩
    rw [hq] at CLA
    have eq1 : (cs.length : Int) - 1 = (q : Int) := by omega
    have q0 : (0 : Int) ≤ q := by omega
    have q1 : (q : Int) < cs.length := by omega
    have cl0i : (0 : Int) < cs.length := by omega
    clear ch cla hq
    go_wp2_with fail
    refine (CO.out _).mono ?_
    rintro e w24 ⟨rfl, x2⟩
    have R1 := Lib.hid (R1.out.ext x2)
    have X1 := Lib.hid (X1.out.trans x2)
    clear x2
    go_wp2_with fail
    refine (RC.out _).mono ?_
    rintro e w25 ⟨rfl, x2⟩
    have R1 := Lib.hid (R1.out.ext x2)
    have X1 := Lib.hid (X1.out.trans x2)
    clear x2
    obtain ⟨ad, rfl, ca⟩ := strs_cell R1.out 0 us CH.out
    have ez : ad.add 0 = ad := by unfold Addr.add; split <;> simp_all
    have cz := ca
    rw [ez] at cz
    clear ez
    obtain ⟨ad2, e2, cb⟩ := strs_cell R1.out q last CLA.out
    injection e2 with e2
    subst e2
    go_wp2_with fail
    go_loopw [53] (fun i wr => ∃ k : Nat, 1 ≤ k ∧ k ≤ cs.length ∧ i = .int .i64 k ∧ Hid (Ext w25 wr)) (fun i _ => cs.length - (intOf i).toNat)
    case atStart => exact ⟨1, Nat.le_refl _, by omega, rfl, Ext.refl _⟩
    case round =>
      obtain ⟨k, hk1, hk, rfl, HX⟩ := hrel
      generalize wr = wi at *
      have k0 : (1 : Int) ≤ k := by omega
      clear ca cb cz
      by_cases hlt : k < cs.length
      · have k1 : (k : Int) < cs.length := by omega
        obtain ⟨j, hj⟩ : ∃ j : Nat, k = j + 1 := ⟨k - 1, by omega⟩
        have ej : (k : Int) - 1 = (j : Int) := by omega
        have j0 : (0 : Int) ≤ j := by omega
        have j1 : (j : Int) < cs.length := by omega
        obtain ⟨z, hz⟩ : ∃ z, cs[k]? = some z := ⟨_, List.getElem?_eq_getElem hlt⟩
        obtain ⟨y2, hy2⟩ : ∃ y2, cs[j]? = some y2 := ⟨_, List.getElem?_eq_getElem (by omega)⟩
        obtain ⟨bs, hbl, hub, CN⟩ := N.out.step j y2 z hy2 (by rw [← hj]; exact hz)
        have CN := Lib.hid CN
        have FH := Lib.hid (fun v W h => fHas_calls bs (by omega) z hub v W h)
        have R1 := Lib.hid (R1.out.ext HX.out)
        obtain ⟨ad2, e2, cb⟩ := strs_cell R1.out j y2 hy2
        injection e2 with e2
        subst e2
        have HZ := Lib.hid hz
        clear hbl hub hz hy2 hj
        go_wp2_with fail
        refine (CN.out _).mono ?_
        rintro e w26 ⟨bv, rfl, ob, x26⟩
        have X26 := Lib.hid (HX.out.trans x26)
        have FH2 := Lib.hid (FH.out bv w26 ob.reads)
        obtain ⟨ad2, e2, ca⟩ := strs_cell (R1.out.ext x26) k z HZ.out
        injection e2 with e2
        subst e2
        clear ob x26 cb FH
        go_wp2_with fail
        refine (FH2.out).mono ?_
        rintro e w27 ⟨rfl, rfl⟩
        go_wp2_with fail
        exact ⟨⟨k + 1, by omega, by omega, by go_num, X26.out⟩, by simp [intOf]; omega⟩
      · have k1 : ¬ ((k : Int) < cs.length) := by omega
        have XF := Lib.hid (X1.out.trans HX.out)
        go_wp2_with fail
        go_ret
        exact ⟨rfl, XF.out⟩
end Go.Proofs.Ytpmmajfdcicjiaa.N
/- Arguments that are bytes, as a row opens them. -/
namespace Go.Proofs.Ytpmmajfdcicjiaa.N
open Go.RowKit Go.Deep
set_option linter.unusedVariables false
set_option linter.unusedSimpArgs false

/-- A slice of bytes of any length that can be read. -/
def BytesA (w : World) (v : Value) (n : Nat) : Prop := ∃ A c, v = .slice A n c ∧ (0 < n → ∃ ad, A = some ad ∧ ∀ j, j < n → ∃ b : Nat, b < 256 ∧ w.cell? (ad.add j) = some (.int .u8 (b : Nat)))
theorem BytesA.small {w : World} {v : Value} {n : Nat} (h : BytesA w v n) (hn : n ≤ 1048576) : BytesR w v n := by
  obtain ⟨A, c, e, h2⟩ := h
  refine ⟨A, c, e, hn, fun hp => ?_⟩
  obtain ⟨ad, ea, hc⟩ := h2 hp
  obtain ⟨b, _, hb⟩ := hc 0 hp
  refine ⟨ad, ea, ?_, hc⟩
  have := World.block_lt_of_cell? w _ hb
  rwa [add_block] at this
theorem one_uint8 : Try.prog.cellsOf 5 = 1 := by kernel_rfl
theorem bytes_of {H : Type} {enc : TypeId × Value → H} {W : World} {held : Bool} {fuel base : Nat} {a : Option Addr} {len cap : Nat} {x : DataW H × List MemPlace}
    (h : DataW.trod enc Try.prog W base (fun _ => true) held fuel 22 (Value.slice a len cap).cells.toList = some x) : ∃ n : Nat, n ≤ maxLen ∧ BytesA W (.slice a len cap) n := by
  rcases Go.ChangeShapes.open_ints Try.underlying22 Try.underlying5 one_uint8 h with ⟨hcs, hx⟩ | ⟨ad, len', cap', zs, hcs, _, hl, hm, hz, hx, hcell, hwz⟩
  · simp [Value.cells] at hcs
    obtain ⟨rfl, rfl, rfl⟩ := hcs
    exact ⟨0, by simp, none, 0, rfl, fun h => absurd h (Nat.lt_irrefl _)⟩
  · simp [Value.cells] at hcs
    obtain ⟨rfl, rfl, rfl⟩ := hcs
    simp only [if_true] at hz
    refine ⟨len, by omega, some ad, cap, rfl, fun _ => ⟨ad, rfl, fun j hj => ?_⟩⟩
    have hj2 : j < zs.length := by omega
    have hw := hwz _ (List.getElem_mem hj2)
    have e : zs.getD j 0 = zs[j] := by simp [List.getD_eq_getElem?_getD, List.getElem?_eq_getElem hj2]
    have hr : 0 ≤ zs[j] ∧ zs[j] < 256 := by
      have h1 := hw
      simp [Lit.wf] at h1
      have a : IntKind.u8.min = 0 := by decide
      have b : IntKind.u8.max = 255 := by decide
      omega
    refine ⟨zs[j].toNat, by omega, ?_⟩
    rw [hcell j hj2, e]
    rw [show ((zs[j].toNat : Nat) : Int) = zs[j] from by omega]
end Go.Proofs.Ytpmmajfdcicjiaa.N
