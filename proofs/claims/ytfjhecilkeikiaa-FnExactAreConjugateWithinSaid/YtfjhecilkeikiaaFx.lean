import Derived.Test.YtfjhecilkeikiaaBa
import Derived.Test.YtfjhecilkeikiaaPu
import Derived.Test.YtfjhecilkeikiaaSl
import Derived.Test.YtfjhecilkeikiaaProg
import Derived.Test.YtfjhecilkeikiaaTn
import Derived.Test.YtfjhecilkeikiaaTs
import Derived.Test.YtfjhecilkeikiaaPp
import Derived.Test.YtfjhecilkeikiaaPg
import Derived.Test.YtfjhecilkeikiaaPh
import Derived.Test.YtfjhecilkeikiaaWl
import Derived.Test.YtfjhecilkeikiaaWt
import Derived.Test.YtfjhecilkeikiaaTp
import Derived.Test.YtfjhecilkeikiaaTr
import Derived.Test.YtfjhecilkeikiaaTu
import Derived.Test.YtfjhecilkeikiaaTv
import Derived.Test.YtfjhecilkeikiaaTw
import Derived.Test.YtfjhecilkeikiaaTg
import Derived.Test.YtfjhecilkeikiaaSx
import Derived.Test.YtfjhecilkeikiaaSy
import Derived.Test.YtfjhecilkeikiaaSz
import Derived.Test.YtfjhecilkeikiaaSw
import Derived.Test.YtfjhecilkeikiaaSg
import Derived.Test.YtfjhecilkeikiaaSj
import Derived.Test.YtfjhecilkeikiaaTk
import Derived.Test.YtfjhecilkeikiaaCl
import Derived.Test.YtfjhecilkeikiaaCw
import Derived.Test.YtfjhecilkeikiaaCx
import Derived.Test.YtfjhecilkeikiaaWp
import Derived.Test.YtfjhecilkeikiaaWq
import Derived.Test.YtfjhecilkeikiaaVt
import Derived.Test.YtfjhecilkeikiaaAc
import Derived.Test.YtfjhecilkeikiaaAw
import Derived.Test.YtfjhecilkeikiaaRw
import Derived.Test.YtfjhecilkeikiaaPn
import Derived.Test.YtfjhecilkeikiaaPt
import Derived.Test.YtfjhecilkeikiaaLc
import Derived.Test.YtfjhecilkeikiaaCz
import Derived.Test.YtfjhecilkeikiaaCy
import Derived.Test.YtfjhecilkeikiaaLe
import Derived.Test.YtfjhecilkeikiaaFu
import Derived.Test.YtfjhecilkeikiaaFv
import Derived.Deep.LoopGhost
import Derived.Deep.RegionHeld3
import Derived.Deep.QuietTactic
import Derived.StillTailTactics
import Derived.BigQuiet
import Derived.Deep.CutRange
/- The reference's search for a conjugator. -/
namespace Go.Proofs.Ytfjhecilkeikiaa.N
open Go.RowKit
set_option linter.unusedVariables false
set_option linter.unusedSimpArgs false

theorem find_drop (P : List Int → Bool) (L : List (List Int)) (j : Nat) (w : List Int) (h : L[j]? = some w) : (L.drop j).find? P = if P w then some w else (L.drop (j + 1)).find? P := by
  rw [List.drop_eq_getElem_cons (List.getElem?_eq_some_iff.1 h).1, (List.getElem?_eq_some_iff.1 h).2, List.find?_cons]
  cases P w <;> rfl
def conjugR (p : Tr × Tr) (goal : ByteArray) (n k : Nat) : Option (List Int) := firstW redWd (fitsR p goal) n k
theorem conjugR_step (p : Tr × Tr) (goal : ByteArray) (n k : Nat) : conjugR p goal n (k + 1) = match (redWd n).find? (fitsR p goal) with | some w => some w | none => conjugR p goal (n + 1) k := rfl
set_option maxHeartbeats 6400000 in
set_option maxRecDepth 100000 in
theorem cjFind_calls (A B C D : Tr) (hc : A.carets = B.carets) (hB : B.carets ≤ 8) (hd : C.carets = D.carets) (hD : D.carets ≤ 8) (m : Nat) (hm : m ≤ 4) (w : World) :
    Calls Try.prog 33 #[.agg #[.string (tx A), .string (tx B)], .agg #[.string (tx C), .string (tx D)], .int .i64 m] w fun e w' => ∃ v, e = .returned (.tuple #[v, .bool (foundF (conjugR (A, B) (ptx (red (C, D))) 0 (m + 1)))]) ∧ FoundV w' w.heap.size v (conjugR (A, B) (ptx (red (C, D))) 0 (m + 1)) ∧ Ext w w' := by
  obtain ⟨X2, c0, c1, c2, c3⟩ := boxes4 w (.string (tx A)) (.string (tx B)) (.string (tx C)) (.string (tx D)) 28
  have X2 := Lib.hid X2
  have C2 := Lib.hid (fun W => prReduce_calls C D (by omega) (by omega) W)
  have hq : (red (C, D)).1.carets ≤ 8 ∧ (red (C, D)).2.carets ≤ 8 := by have := red_le (C, D); simp only at this; exact ⟨by omega, by omega⟩
  have CT := Lib.hid (fun W => prText_calls (red (C, D)).1 (red (C, D)).2 (by omega) (by omega) W)
  rw [show ((red (C, D)).1, (red (C, D)).2) = red (C, D) from rfl] at CT
  have CJ := Lib.hid (fun (q : Tr × Tr) (hq : Bal q) (hqc : q.1.carets ≤ 12) W => cjBy_calls A B q.1 q.2 hc hq (by omega) W)
  have CB := Lib.hid (fun (q : Tr × Tr) (hq : Bal q) => conj_carets (p := (A, B)) (q := q) hc hq)
  have hA8 : Hid (A.carets ≤ 8) := by show _ ≤ _; omega
  have HST := Lib.hid (fun goal n k => conjugR_step (A, B) goal n k)
  have H0 : Hid (∀ goal n, conjugR (A, B) goal n 0 = none) := fun goal n => rfl
  have FT : Hid (∀ goal w, fitsR (A, B) goal w = decide (ptx (conj (A, B) (pairW w)) = goal)) := fun goal w => rfl
  have hm' : (m : Int) ≤ 4 := by omega
  generalize conjugR (A, B) = L at *
  generalize fitsR (A, B) = FR at *
  generalize hpp : ((A, B) : Tr × Tr) = pp at *
  have PP : Hid (pp.1 = A ∧ pp.2 = B) := by rw [← hpp]; exact ⟨rfl, rfl⟩
  generalize tx A = a at *
  generalize tx B = b at *
  generalize ptx (red (C, D)) = goal at *
  generalize tx (red (C, D)).1 = g1 at *
  generalize tx (red (C, D)).2 = g2 at *
  generalize tx C = sc at *
  generalize tx D = sd at *
  clear hc hB hd hD hq hpp
  go_enter Try.func33, Try.ntmps33
  go_wp2_with fail
  generalize (w.alloc (.cells #[.string a, .string b] 28)).alloc (.cells #[.string sc, .string sd] 28) = W at *
  refine (C2.out _).mono ?_
  rintro e w1 ⟨rfl, x1⟩
  have X1 := Lib.hid (X2.out.trans x1)
  have c0 := x1.cell c0
  have c1 := x1.cell c1
  clear x1 c2 c3
  go_wp2_with fail
  refine (CT.out _).mono ?_
  rintro e w2 ⟨rfl, x2⟩
  have X3 := Lib.hid (X1.out.trans x2)
  have D0 : Hid (w2.cell? ⟨w.heap.size, 0, none⟩ = some (.string a) ∧ w2.cell? ⟨w.heap.size, 1, none⟩ = some (.string b)) := ⟨x2.cell c0, x2.cell c1⟩
  clear x2 c0 c1
  go_wp2_with fail
  go_loopw [9] (fun i wr => ∃ k : Nat, k ≤ m + 1 ∧ i = .int .i64 k ∧ Hid (L goal 0 (m + 1) = L goal k (m + 1 - k)) ∧ Hid (wr.cell? ⟨w.heap.size, 0, none⟩ = some (.string a) ∧ wr.cell? ⟨w.heap.size, 1, none⟩ = some (.string b)) ∧ Hid (Ext w wr)) (fun i _ => m + 1 - (intOf i).toNat)
  case atStart => exact ⟨0, by omega, rfl, rfl, D0.out, X3.out⟩
  case round =>
    obtain ⟨k, hk, rfl, HL, HD, HX⟩ := hrel
    generalize wr = wk at *
    by_cases hlt : k ≤ m
    · have h0 : (0 : Int) ≤ k := by omega
      have h1 : (k : Int) ≤ m := by omega
      have ST : Hid (L goal k (m + 1 - k) = match (redWd k).find? (FR goal) with | some w => some w | none => L goal (k + 1) (m - k)) := by
        show _ = _
        rw [show m + 1 - k = m - k + 1 by omega]
        exact HST.out goal k (m - k)
      have LEN : Hid ((redWd k).length ≤ 256) := Nat.le_trans (redWd_length k) (Nat.pow_le_pow_right (by omega) (show k ≤ 4 by omega))
      have WW := Lib.hid (fun w (hw : w ∈ redWd k) => redWd_words hw)
      have CW := Lib.hid (fun W => cjWords_calls k (by omega) W)
      have K4 : Hid (k ≤ 4) := by show _ ≤ _; omega
      go_wp2_with fail
      refine (CW.out _).mono ?_
      rintro e w5 ⟨v5, rfl, r5, x5⟩
      obtain ⟨A5, c5, rfl, _⟩ := r5.open
      have RD := Lib.hid r5
      have X5 := Lib.hid (HX.out.trans x5)
      have HD := Lib.hid (And.intro (x5.cell HD.out.1) (x5.cell HD.out.2))
      have LE' := LEN.out
      clear r5 x5
      generalize redWd k = RL at *
      go_wp2_with fail
      go_loopw [23] (fun i wr => ∃ j : Nat, j ≤ RL.length ∧ i = .int .i64 j ∧ Hid (RL.find? (FR goal) = (RL.drop j).find? (FR goal)) ∧ Hid (wr.cell? ⟨w.heap.size, 0, none⟩ = some (.string a) ∧ wr.cell? ⟨w.heap.size, 1, none⟩ = some (.string b)) ∧ Hid (Ext w wr) ∧ Hid (OwnR wr wk.heap.size (.slice A5 RL.length c5) RL)) (fun i _ => RL.length - (intOf i).toNat)
      case atStart => exact ⟨0, Nat.zero_le _, rfl, rfl, HD.out, X5.out, RD.out⟩
      case round =>
        obtain ⟨j, hj, rfl, HF, HD2, HX2, HR2⟩ := hrel
        generalize wr = wj at *
        by_cases hjl : j < RL.length
        · have g0 : (0 : Int) ≤ j := by omega
          have g1 : (j : Int) < RL.length := by omega
          have hw : RL[j]? = some RL[j] := List.getElem?_eq_getElem hjl
          obtain ⟨A6, c6, e6, rd6⟩ := HR2.out.open
          injection e6 with e7 _ e8
          subst e7 e8
          obtain ⟨ad, B, d, rfl, cj, rw1⟩ := rd6 j _ hw
          have WJ := WW.out _ (List.mem_of_getElem? hw)
          have SD := Lib.hid (find_drop (FR goal) RL j _ hw)
          generalize RL[j] = ws at *
          have WB : ∀ x ∈ ws, x ≠ 0 ∧ -2 ≤ x ∧ x ≤ 2 := fun x hx => lts_bound (WJ.2 x hx)
          have bq := pairW_bal (fun y hy => (WB y hy).1 : NZ ws)
          have qc := pairW_carets _ ws rfl WB
          have ql : ws.length ≤ 4 := by rw [WJ.1]; exact K4.out
          have FW := FT.out goal ws
          have CP := Lib.hid (fun W (h : Ext wj W) => cjPair_calls ws ql WB _ W (rw1.reads.ext h))
          have CY := Lib.hid (fun W => CJ.out (pairW ws) bq (by unfold Bal at bq; omega) W)
          rw [show ((pairW ws).1, (pairW ws).2) = pairW ws from rfl] at CY
          have yc := CB.out (pairW ws) bq
          have YC : (conj pp (pairW ws)).1.carets ≤ 100 ∧ (conj pp (pairW ws)).2.carets ≤ 100 := by
            have := PP.out; have := hA8.out; unfold Bal at bq; rw [PP.out.1] at yc; exact ⟨by omega, by omega⟩
          have PT := Lib.hid (fun W => prText_calls (conj pp (pairW ws)).1 (conj pp (pairW ws)).2 (by omega) (by omega) W)
          rw [show ((conj pp (pairW ws)).1, (conj pp (pairW ws)).2) = conj pp (pairW ws) from rfl] at PT
          generalize ptx (conj pp (pairW ws)) = yt at *
          generalize tx (conj pp (pairW ws)).1 = y1 at *
          generalize tx (conj pp (pairW ws)).2 = y2 at *
          generalize tx (pairW ws).1 = q1 at *
          generalize tx (pairW ws).2 = q2 at *
          have RO := Lib.hid rw1
          have KX : ∀ w', Ext wj w' → w'.cell? ⟨w.heap.size, 0, none⟩ = some (.string a) ∧ w'.cell? ⟨w.heap.size, 1, none⟩ = some (.string b) := fun w' h => ⟨h.cell HD2.out.1, h.cell HD2.out.2⟩
          have BL := Lib.hid (HX.out.size)
          clear yc qc ql bq WB hw WJ rw1 rd6 YC
          go_wp2_with fail
          go_region_held3 (fun w' => w'.cell? ⟨w.heap.size, 0, none⟩ = some (.string a) ∧ w'.cell? ⟨w.heap.size, 1, none⟩ = some (.string b))
            (first | exact KX _ (Ext.refl _).drew | exact KX _ x3 | exact KX _ x4 | exact KX _ x5 | fail)
            (first
              | (go_at_call 61; refine (CY.out _).mono ?_; rintro e w4 ⟨rfl, hx4⟩; have x4 := x3.trans hx4)
              | (go_at_call 62; refine (CP.out _ (Ext.refl wj).drew).mono ?_; rintro e w3 ⟨rfl, hx3⟩; have x3 := (Ext.refl wj).drew.trans hx3)
              | (go_at_call 46; refine (PT.out _).mono ?_; rintro e w5' ⟨rfl, hx5⟩; have x5 := x4.trans hx5)
              | fail)
          have HD3 := Lib.hid (KX _ x5)
          have HX3 := Lib.hid (HX2.out.trans x5)
          have HR3 := Lib.hid (HR2.out.ext x5)
          have RO3 := Lib.hid (RO.out.ext x5)
          clear x3 x4 x5 hx3 hx4 hx5 KX cj
          by_cases hg : yt = goal
          · have t1 : (yt.toList == goal.toList) = true := by rw [hg]; simp
            have EV : Hid (L goal 0 (m + 1) = some ws) := by show _ = _; rw [HL.out, ST.out, HF.out, SD.out, FW, decide_eq_true hg]; rfl
            rw [t1]
            go_wp2_with fail
            go_ret2
            rw [EV.out]
            exact ⟨_, rfl, RO3.out.mono BL.out, HX3.out⟩
          · have t1 : (yt.toList == goal.toList) = false := by rw [beq_eq_false_iff_ne]; intro h; exact hg (ba_ext h)
            have EV : Hid (RL.find? (FR goal) = (RL.drop (j + 1)).find? (FR goal)) := by show _ = _; rw [HF.out, SD.out, FW, decide_eq_false hg]; rfl
            rw [t1]
            go_wp2_with fail
            exact ⟨⟨j + 1, by omega, by go_num, EV.out, HD3.out, HX3.out, HR3.out⟩, by simp [intOf]; omega⟩
        · have g1 : (RL.length : Int) ≤ j := by omega
          have EV : Hid (L goal 0 (m + 1) = L goal (k + 1) (m + 1 - (k + 1))) := by
            show _ = _
            rw [HL.out, ST.out, HF.out, List.drop_eq_nil_of_le (by omega), show m + 1 - (k + 1) = m - k by omega]; rfl
          go_wp2_with fail
          exact ⟨⟨k + 1, by omega, by go_num, EV.out, HD2.out, HX2.out⟩, by simp [intOf]; omega⟩
    · have h1 : ¬ (k : Int) ≤ m := by omega
      have EV : Hid (L goal 0 (m + 1) = none) := by show _ = _; rw [HL.out, show m + 1 - k = 0 by omega]; exact H0.out _ _
      go_wp2_with fail
      go_ret2
      rw [EV.out]
      exact ⟨_, rfl, rfl, HX.out⟩
end Go.Proofs.Ytfjhecilkeikiaa.N
