import Derived.OwnWalk
import Derived.Test.YtijnadjgmmednaaXg14
/- A part of the proof: lemmas that later parts use. -/
set_option linter.unusedVariables false
set_option linter.unusedSimpArgs false
namespace Go.Proofs.Ytijnadjgmmednaa.N
open Go.RowKit
set_option maxHeartbeats 6400000 in
set_option maxRecDepth 100000 in
theorem same_calls (A B C D : Tr) (hA : A.carets < 100000) (hB : B.carets < 100000) (hC : C.carets < 100000) (hD : D.carets < 100000) (pa pb pc pd : Option Addr) (w : World) (ra : Rep w A pa) (rb : Rep w B pb) (rc : Rep w C pc) (rd : Rep w D pd) :
    Calls Try.prog 149 #[.agg #[.pointer pa, .pointer pb], .agg #[.pointer pc, .pointer pd]] w fun e w' => e = .returned (.bool ((ptx (red (A, B))).toList == (ptx (red (C, D))).toList)) ∧ Ext w w' := by
  have x1 := (Ext.refl w).alloc (.cells #[.pointer pa, .pointer pb] 82)
  have x2 := (Ext.refl (w.alloc (.cells #[.pointer pa, .pointer pb] 82))).alloc (.cells #[.pointer pc, .pointer pd] 82)
  obtain ⟨a0, a1⟩ := cells_of (x2.at (heap_alloc_new w (.cells #[.pointer pa, .pointer pb] 82)))
  have hn := heap_alloc_new (w.alloc (.cells #[.pointer pa, .pointer pb] 82)) (.cells #[.pointer pc, .pointer pd] 82)
  rw [show (w.alloc (.cells #[.pointer pa, .pointer pb] 82)).heap.size = w.heap.size + 1 from Array.size_push _] at hn
  obtain ⟨b0, b1⟩ := cells_of hn
  have X0 := Lib.hid (x1.trans x2)
  have T1 := Lib.hid (fun W (h : Ext w W) => reduced_calls A B (by omega) (by omega) pa pb W (ra.ext h) (rb.ext h))
  have T2 := Lib.hid (fun W (h : Ext w W) => reduced_calls C D (by omega) (by omega) pc pd W (rc.ext h) (rd.ext h))
  have h1 := red_le (A, B)
  have h2 := red_le (C, D)
  simp only at h1 h2
  have P1 := Lib.hid (fun ya yb W (ha : Rep W (red (A, B)).1 ya) (hb : Rep W (red (A, B)).2 yb) => ptext_calls (red (A, B)).1 (red (A, B)).2 (by omega) (by omega) ya yb W ha hb)
  have P2 := Lib.hid (fun ya yb W (ha : Rep W (red (C, D)).1 ya) (hb : Rep W (red (C, D)).2 yb) => ptext_calls (red (C, D)).1 (red (C, D)).2 (by omega) (by omega) ya yb W ha hb)
  rw [show ((red (A, B)).1, (red (A, B)).2) = red (A, B) from rfl] at P1
  rw [show ((red (C, D)).1, (red (C, D)).2) = red (C, D) from rfl] at P2
  generalize ptx (red (A, B)) = u1 at *
  generalize ptx (red (C, D)) = u2 at *
  generalize red (A, B) = q1 at *
  generalize red (C, D) = q2 at *
  clear h1 h2 x1 x2 hn hA hB hC hD ra rb rc rd
  go_enter Try.func149, Try.ntmps149
  go_wp2_with fail
  generalize (w.alloc (.cells #[.pointer pa, .pointer pb] 82)).alloc (.cells #[.pointer pc, .pointer pd] 82) = wb at *
  have KX : ∀ w', Ext wb w' → w'.cell? ⟨w.heap.size, 0, none⟩ = some (.pointer pa) ∧ w'.cell? ⟨w.heap.size, 1, none⟩ = some (.pointer pb) ∧ w'.cell? ⟨w.heap.size + 1, 0, none⟩ = some (.pointer pc) ∧ w'.cell? ⟨w.heap.size + 1, 1, none⟩ = some (.pointer pd) := fun w' h => ⟨h.cell a0, h.cell a1, h.cell b0, h.cell b1⟩
  go_region_held3 (fun w' => w'.cell? ⟨w.heap.size, 0, none⟩ = some (.pointer pa) ∧ w'.cell? ⟨w.heap.size, 1, none⟩ = some (.pointer pb) ∧ w'.cell? ⟨w.heap.size + 1, 0, none⟩ = some (.pointer pc) ∧ w'.cell? ⟨w.heap.size + 1, 1, none⟩ = some (.pointer pd))
    (first | with_reducible exact KX _ (Ext.refl _).drew | with_reducible exact KX _ x3 | with_reducible exact KX _ x4 | with_reducible exact KX _ x5 | with_reducible exact KX _ x6 | fail)
    (first
      | (go_at_call 84; (with_reducible refine (T1.out _ (X0.out.trans (Ext.refl wb).drew)).mono ?_); rintro e w3 ⟨s1, s2, rfl, hr1, hr2, hx3⟩; have x3 := (Ext.refl wb).drew.trans hx3)
      | (go_at_call 174; (with_reducible refine (P1.out _ _ _ hr1 hr2).mono ?_); rintro e w4 ⟨rfl, hx4⟩; have x4 := x3.trans hx4)
      | (go_at_call 84; (with_reducible refine (T2.out _ (X0.out.trans x4)).mono ?_); rintro e w5 ⟨s3, s4, rfl, hr3, hr4, hx5⟩; have x5 := x4.trans hx5)
      | (go_at_call 174; (with_reducible refine (P2.out _ _ _ hr3 hr4).mono ?_); rintro e w6 ⟨rfl, hx6⟩; have x6 := x5.trans hx6)
      | fail)
  all_goals
    have X6 := Lib.hid (X0.out.trans x6)
    go_wp2_with fail
    go_ret
    exact ⟨rfl, X6.out⟩
set_option maxHeartbeats 3200000 in
set_option maxRecDepth 100000 in
theorem AreSame_yes (A B C D : Tr) (hc : A.carets = B.carets) (hB : B.carets ≤ 8) (hd : C.carets = D.carets) (hD : D.carets ≤ 8) (w : World) :
    Calls Try.prog 103 #[.agg #[.string (tx A), .string (tx B)], .agg #[.string (tx C), .string (tx D)]] w fun e w' => e = .returned (.tuple #[.bool ((ptx (red (A, B))).toList == (ptx (red (C, D))).toList), .bool true]) ∧ Ext w w' := by
  have x1 := (Ext.refl w).alloc (.cells #[.string (tx A), .string (tx B)] 25)
  have x2 := (Ext.refl (w.alloc (.cells #[.string (tx A), .string (tx B)] 25))).alloc (.cells #[.string (tx C), .string (tx D)] 25)
  obtain ⟨a0, a1⟩ := cells_of (x2.at (heap_alloc_new w (.cells #[.string (tx A), .string (tx B)] 25)))
  have hn := heap_alloc_new (w.alloc (.cells #[.string (tx A), .string (tx B)] 25)) (.cells #[.string (tx C), .string (tx D)] 25)
  rw [show (w.alloc (.cells #[.string (tx A), .string (tx B)] 25)).heap.size = w.heap.size + 1 from Array.size_push _] at hn
  obtain ⟨b0, b1⟩ := cells_of hn
  have X0 := Lib.hid (x1.trans x2)
  have CT := Lib.hid (fun W => two_yes A B C D hc hB hd hD W)
  have CS := Lib.hid (fun pa pb pc pd W ra rb rc rd => same_calls A B C D (by omega) (by omega) (by omega) (by omega) pa pb pc pd W ra rb rc rd)
  generalize tx A = a at *
  generalize tx B = b at *
  generalize tx C = c at *
  generalize tx D = d at *
  generalize ((ptx (red (A, B))).toList == (ptx (red (C, D))).toList) = res at *
  clear x1 x2 hn
  go_enter Try.func103, Try.ntmps103
  go_wp2_with fail
  generalize (w.alloc (.cells #[.string a, .string b] 25)).alloc (.cells #[.string c, .string d] 25) = wb at *
  refine (CT.out _).mono ?_
  rintro e w1 ⟨pa, pb, pc, pd, rfl, rA, rB, rC, rD, x1⟩
  have xx := ((Ext.refl w1).alloc (.cells #[.pointer pa, .pointer pb] 82)).alloc (.cells #[.pointer pc, .pointer pd] 82)
  have X1 := Lib.hid (X0.out.trans (x1.trans xx))
  have C2 := Lib.hid (CS.out pa pb pc pd _ (rA.ext xx) (rB.ext xx) (rC.ext xx) (rD.ext xx))
  clear rA rB rC rD x1 xx CS
  go_wp2_with fail
  generalize (w1.alloc (.cells #[.pointer pa, .pointer pb] 82)).alloc (.cells #[.pointer pc, .pointer pd] 82) = W1 at *
  refine (C2.out).mono ?_
  rintro e w2 ⟨rfl, x2⟩
  have X2 := Lib.hid (X1.out.trans x2)
  clear x2
  go_wp2_with fail
  go_ret2
  exact ⟨rfl, X2.out⟩
end Go.Proofs.Ytijnadjgmmednaa.N
