import Derived.Test.YtijnadjgmmednaaGreatZc7
import Derived.Test.YtijnadjgmmednaaGreatZc8
/- A part of the proof: lemmas that later parts use. -/
set_option linter.unusedVariables false
set_option linter.unusedSimpArgs false
namespace Go.Proofs.YtijnadjgmmednaaGreat.N
open Go.RowKit
set_option maxHeartbeats 3200000 in
set_option maxRecDepth 100000 in
theorem climbs_calls (T : Tr) : ∀ (k : Nat) (p : Option Addr) (w : World), k + T.carets < 1000000 → Rep w T p →
    Calls Tryz.prog 101 #[.pointer p, .int .i64 k] w (GivesN w (climb T k)) := by
  induction T with
  | leaf =>
    intro k p w hk hr
    obtain rfl := hr
    have OL : Hid (Own (w.alloc (.cells #[.int .i64 k] 3)) w.heap.size 3 (.slice (some ⟨w.heap.size, 0, none⟩) 1 1) (nats [k])) := Own.lit w w.heap.size 3 #[.int .i64 k] (Nat.le_refl _) (by show 1 ≤ maxLen; decide)
    have XL := Lib.hid ((Ext.refl w).alloc (.cells #[.int .i64 k] 3))
    go_enter Tryz.func101, Tryz.ntmps101
    go_wp2_with fail
    go_ret
    exact ⟨_, rfl, OL.out, XL.out⟩
  | node l r ihl ihr =>
    intro k p w hk hr
    obtain ⟨b, pl, pr, rfl, h0, h1, hl, hr'⟩ := hr.open
    simp only [Tr.carets] at hk
    have H := Lib.hid (And.intro hl hr')
    have W1 : Hid ((k : Int) + 1 = ((k + 1 : Nat) : Int)) := by show _ = _; omega
    have W2 : IntKind.i64.wrap ((k : Int) + 1) = (k : Int) + 1 := wrap_ok (by omega)
    have kb : (0 : Int) ≤ k ∧ (k : Int) < 1000000 := by omega
    have HC : Hid (k + 1 + l.carets < 1000000 ∧ 0 + r.carets < 1000000) := ⟨by omega, by omega⟩
    have L2 : Hid (((nats (climb l (k + 1))).length + (nats (climb r 0)).length) * 8 ≤ 140737488355328) := by show _ ≤ _; rw [nats_length, nats_length, climb_length, climb_length]; omega
    clear hr hl hr' hk
    go_enter Tryz.func101, Tryz.ntmps101
    go_wp2_with fail
    go_region_held3 (fun w' => w'.cell? ⟨b, 0, none⟩ = some (.pointer pl) ∧ w'.cell? ⟨b, 1, none⟩ = some (.pointer pr) ∧ Ext w w')
      (first | with_reducible exact two_cells h0 h1 (Ext.drew (Ext.refl _)) | with_reducible exact two_cells h0 h1 x4 | with_reducible exact two_cells h0 h1 x3 | with_reducible exact two_cells h0 h1 x1 | fail)
      (first
        | (go_at_call_of 101 (Value.pointer pl); rw [W1.out]; refine (ihl _ _ _ HC.out.1 (H.out.1.ext (Ext.refl _).drew)).mono ?_; rintro e w1 ⟨v1, rfl, o1, hx1⟩; have x1 : Ext w w1 := (Ext.refl w).drew.trans hx1)
        | (go_at_call_of 101 (Value.pointer pr); refine (ihr 0 _ _ HC.out.2 (H.out.2.ext x1)).mono ?_; rintro e w3 ⟨v3, rfl, o3, hx3⟩; have x3 := x1.trans hx3)
        | (refine step_app (by rfl) (.tmp 15) (.tmp 20) 28 (by rfl) w.heap.size 3 (.int .i64 0) 8 Tryz.underlying28 infoInt rfl (by omega) _ _ (nats (climb l (k + 1))) (nats (climb r 0)) (by rfl) (by rfl) (o1.ext hx3) o3.reads (nats_one _) L2.out x3.size ?_; intro v4 w4 o4 g4 _; have x4 := x3.grown g4 o1.lo) | fail)
    go_wp2_with fail
    go_ret
    refine ⟨_, rfl, ?_, x4⟩
    rw [nats_append] at o4
    exact o4
theorem far_after {w w' : World} {b base : Nat} {t e : TypeId} {o x y : Value} {xs : List Value} (g : w.grownBy w' o.ownBlock) (O : Own w base e o xs) (h : w.heap[b]? = some (.cells #[x, y] t)) (hne : t ≠ e) : w'.cell? ⟨b, 0, none⟩ = some x ∧ w'.cell? ⟨b, 1, none⟩ = some y :=
  cells_of ((g.block b (Array.getElem?_eq_some_iff.1 h).1 (fun ek => by
    obtain ⟨cs, fr, e⟩ := O.typed b ek.symm
    rw [h] at e
    injection e with e; injection e with _ e
    exact hne e)).trans h)
set_option maxHeartbeats 3200000 in
set_option maxRecDepth 100000 in
theorem exponents_calls (T : Tr) (hT : T.carets < 100000) (p : Option Addr) (w : World) (hr : Rep w T p) :
    Calls Tryz.prog 79 #[.pointer p] w (GivesN w (expT T)) := by
  have HR := Lib.hid (And.intro hr hT)
  clear hr hT
  go_enter Tryz.func79, Tryz.ntmps79
  go_wp2_with fail
  go_loopg [0, 3] T.carets (fun f t o wr => ∃ (U : Tr) (q : Option Addr) (pre : List Nat), t = .pointer q ∧ Hid (U.carets = f) ∧ Hid (pre.length + U.carets ≤ T.carets) ∧ Hid (Rep wr U q) ∧ Hid (expT T = pre ++ expT U) ∧ Hid (Own wr w.heap.size 3 o (nats pre)) ∧ Hid (Ext w wr))
  case atStart => exact ⟨T, p, [], rfl, rfl, Nat.le_of_eq (by simp), HR.out.1, rfl, Own.nil _ _ _, Ext.refl _⟩
  case round =>
    obtain ⟨U, q, pre, rfl, HF, HL, HU, HE, HO, HX⟩ := hrel
    cases U with
    | leaf =>
      obtain rfl : q = none := HU.out
      have O2 := HO.out.ext ((Ext.refl _).alloc (.cells #[.int .i64 0] 3))
      have RL : Hid (Reads (wr.alloc (.cells #[.int .i64 0] 3)) (.slice (some ⟨wr.heap.size, 0, none⟩) 1 1) (nats [0])) := (Own.lit wr 0 3 #[.int .i64 0] (Nat.zero_le _) (by show 1 ≤ maxLen; decide)).reads
      have LL : Hid (((nats pre).length + (nats [0]).length) * 8 ≤ 140737488355328) := by show _ ≤ _; rw [nats_length, nats_length]; have := HL.out; have := HR.out.2; simp only [List.length_singleton]; omega
      have B1 := Lib.hid (HX.out.alloc (.cells #[.int .i64 0] 3)).size
      go_wp2_with (at_builtin; refine wpList_app rfl (.tmp 17) (.tmp 18) 28 rfl w.heap.size 3 (.int .i64 0) 8 Tryz.underlying28 infoInt rfl (by omega) _ _ _ (nats [0]) rfl rfl O2 RL.out (nats_one _) LL.out B1.out ?_; intro v4 w4 o4 g4 _)
      have X4 := Lib.hid ((HX.out.alloc _).grown g4 O2.lo)
      rw [nats_append, show pre ++ [0] = expT T from HE.out.symm] at o4
      have O4 := Lib.hid o4
      clear o4 g4 O2
      go_wp2_with fail
      go_ret
      exact ⟨_, rfl, O4.out, X4.out⟩
    | node l r =>
      obtain ⟨b, pl, pr, rfl, hb, hl, hr⟩ := HU.out
      obtain ⟨c0, c1⟩ := cells_of hb
      have HBB := Lib.hid hb
      have HLE : Hid (pre.length + (1 + l.carets + r.carets) ≤ T.carets) := HL.out
      have CC := Lib.hid (climbs_calls l 0 pl wr (by have := HLE.out; have := HR.out.2; omega) hl)
      have HRR := Lib.hid hr
      have LL : Hid (((nats pre).length + (nats (climb l 0)).length) * 8 ≤ 140737488355328) := by show _ ≤ _; rw [nats_length, nats_length, climb_length]; have := HLE.out; have := HR.out.2; omega
      clear hl hr hb
      go_wp2_with fail
      refine CC.out.mono ?_
      rintro e w2 ⟨v2, rfl, o2, x2⟩
      have X2 := Lib.hid (HX.out.trans x2)
      have O2 := HO.out.ext x2
      have HB2 := Lib.hid (x2.at HBB.out)
      have HR2 := Lib.hid (HRR.out.ext x2)
      have R2 := o2.reads
      have LX := Lib.hid X2.out.size
      clear o2 x2 c0 c1
      go_wp2_with (at_builtin; refine wpList_app rfl (.tmp 10) (.tmp 15) 28 rfl w.heap.size 3 (.int .i64 0) 8 Tryz.underlying28 infoInt rfl (by omega) _ _ _ (nats (climb l 0)) rfl rfl O2 R2 (nats_one _) LL.out LX.out ?_; intro v4 w4 o4 g4 _; obtain ⟨_, c1⟩ := far_after g4 O2 HB2.out (by decide))
      have X4 := Lib.hid (X2.out.grown g4 O2.lo)
      have HR4 := Lib.hid (HR2.out.row O2 (by decide) g4)
      rw [nats_append] at o4
      have O4 := Lib.hid o4
      clear o4 g4 O2
      go_roundg r.carets
      · exact ⟨r, pr, pre ++ climb l 0, rfl, rfl, (by show _ ≤ _; rw [List.length_append, climb_length]; have := HLE.out; omega), HR4.out, (by show _ = _; rw [HE.out, List.append_assoc]; rfl), O4.out, X4.out⟩
      · have := HF.out; simp only [Tr.carets] at this; omega
set_option maxHeartbeats 3200000 in
set_option maxRecDepth 100000 in
theorem wordOf_calls (xs : List Nat) (B : Nat) (hB : ∀ x ∈ xs, x ≤ B) (hb : B ≤ 1000) (hl : xs.length ≤ 1000) (v : Value) (w : World) (hv : Reads w v (nats xs)) :
    Calls Tryz.prog 78 #[v] w fun e w' => ∃ u, e = .returned u ∧ Own w' w.heap.size 3 u (ints (wordL xs)) ∧ Ext w w' := by
  obtain ⟨A, c, rfl, h0n, rd⟩ := hv
  have V : Hid (Reads w (.slice A xs.length c) (nats xs)) := ⟨A, c, by rw [nats_length], h0n, rd⟩
  rw [nats_length] at *
  have HL := Lib.hid (wordT_length xs B hB)
  have HB := Lib.hid hB
  have BB := Lib.hid hb
  clear rd hB hb
  go_enter Tryz.func78, Tryz.ntmps78
  go_wp2_with fail
  go_loopw [8, 3] (fun i o wr => ∃ k : Nat, k ≤ xs.length ∧ i = .int .i64 k ∧ Hid (Own wr w.heap.size 3 o (ints (wordT xs k))) ∧ Hid (Ext w wr)) (fun i _ _ => xs.length - (intOf i).toNat)
  case atStart => exact ⟨0, Nat.zero_le _, rfl, Own.nil _ _ _, Ext.refl _⟩
  case round =>
    obtain ⟨k, hk, rfl, HO, HX⟩ := hrel
    by_cases hlt : k < xs.length
    · obtain ⟨A1, c1', e1, _, rd⟩ := V.out.ext HX.out
      rw [nats_length] at rd e1
      obtain ⟨ad, e2, ca⟩ := rd (by omega)
      injection e1 with e3 e4 e5
      subst e3 e5
      subst e2
      clear e4
      have c1 := ca k _ (nats_get xs k hlt)
      have h0 : (0 : Int) ≤ k := by omega
      have h1 : (k : Int) < xs.length := by omega
      have WS : Hid (wordT xs (k + 1) = wordT xs k ++ List.replicate xs[k] ((k : Int) + 1)) := by
        show _ = _
        simp only [wordT]
        rw [List.getD_eq_getElem?_getD, List.getElem?_eq_getElem hlt]; rfl
      have XB : Hid (xs[k] ≤ B) := HB.out _ (List.getElem_mem hlt)
      have LK := Lib.hid (HL.out k)
      have KB : Hid (B * k ≤ 1000000) := by show _ ≤ _; have := Nat.mul_le_mul BB.out (show k ≤ 1000 by omega); omega
      generalize xs[k] = n at *
      have nb : (n : Int) ≤ 1000 := by have := XB.out; have := BB.out; omega
      clear ca rd
      go_wp2_with fail
      go_loopw [14, 3] (fun i o wr => ∃ j : Nat, j ≤ n ∧ i = .int .i64 j ∧ Hid (Own wr w.heap.size 3 o (ints (wordT xs k ++ List.replicate j ((k : Int) + 1)))) ∧ Hid (Ext w wr)) (fun i _ _ => n - (intOf i).toNat)
      case atStart => exact ⟨0, Nat.zero_le _, rfl, (by simpa [Hid] using HO.out), HX.out⟩
      case round =>
        obtain ⟨j, hj, rfl, HO, HX⟩ := hrel
        by_cases hjn : j < n
        · have j0 : (0 : Int) ≤ j := by omega
          have j1 : (j : Int) < n := by omega
          have O2 := HO.out.ext ((Ext.refl _).alloc (.cells #[.int .i64 ((k : Int) + 1)] 3))
          have RL : Hid (Reads (wr.alloc (.cells #[.int .i64 ((k : Int) + 1)] 3)) (.slice (some ⟨wr.heap.size, 0, none⟩) 1 1) (ints [(k : Int) + 1])) := (Own.lit wr 0 3 #[.int .i64 ((k : Int) + 1)] (Nat.zero_le _) (by show 1 ≤ maxLen; decide)).reads
          have LL : Hid (((ints (wordT xs k ++ List.replicate j ((k : Int) + 1))).length + (ints [(k : Int) + 1]).length) * 8 ≤ 140737488355328) := by
            show _ ≤ _
            rw [ints_length, ints_length, List.length_append, List.length_replicate]
            have := LK.out; have := KB.out; have := XB.out; have := BB.out
            simp only [List.length_singleton]
            omega
          have B1 := Lib.hid (HX.out.alloc (.cells #[.int .i64 ((k : Int) + 1)] 3)).size
          go_wp2_with (at_builtin; refine wpList_app rfl (.tmp 16) (.tmp 19) 28 rfl w.heap.size 3 (.int .i64 0) 8 Tryz.underlying28 infoInt rfl (by omega) _ _ _ (ints [(k : Int) + 1]) rfl rfl O2 RL.out (ints_one _) LL.out B1.out ?_; intro v4 w4 o4 g4 _)
          have X4 := Lib.hid ((HX.out.alloc _).grown g4 O2.lo)
          rw [ints_append, List.append_assoc, ← List.replicate_succ'] at o4
          have O4 := Lib.hid o4
          clear o4 g4 O2
          go_wp2_with fail
          exact ⟨⟨j + 1, by omega, by go_num, O4.out, X4.out⟩, by simp [intOf]; omega⟩
        · have j1 : (n : Int) ≤ j := by omega
          obtain rfl : j = n := by omega
          go_wp2_with fail
          exact ⟨⟨k + 1, by omega, by go_num, by rw [WS.out]; exact HO.out, HX.out⟩, by simp [intOf]; omega⟩
    · have h1 : (xs.length : Int) ≤ k := by omega
      obtain rfl : k = xs.length := by omega
      go_wp2_with fail
      go_ret
      exact ⟨_, rfl, HO.out, HX.out⟩
set_option maxHeartbeats 3200000 in
set_option maxRecDepth 100000 in
theorem inverseOf_calls (ws : List Int) (hl : ws.length ≤ 1000000) (hs : ∀ x ∈ ws, -1000000 ≤ x ∧ x ≤ 1000000) (v : Value) (w : World) (hv : Reads w v (ints ws)) :
    Calls Tryz.prog 80 #[v] w fun e w' => ∃ u, e = .returned u ∧ Own w' w.heap.size 3 u (ints (invL ws)) ∧ Ext w w' := by
  obtain ⟨A, c, rfl, h0n, rd⟩ := hv
  have V : Hid (Reads w (.slice A ws.length c) (ints ws)) := ⟨A, c, by rw [ints_length], h0n, rd⟩
  rw [ints_length] at *
  have HS := Lib.hid hs
  clear rd hs
  go_enter Tryz.func80, Tryz.ntmps80
  go_wp2_with fail
  go_loopw [4, 3] (fun i o wr => ∃ j : Nat, j ≤ ws.length ∧ i = .int .i64 ((ws.length : Int) - 1 - j) ∧ Hid (Own wr w.heap.size 3 o (ints ((invL ws).take j))) ∧ Hid (Ext w wr)) (fun i _ _ => (intOf i + 1).toNat)
  case atStart => exact ⟨0, Nat.zero_le _, by go_num, Own.nil _ _ _, Ext.refl _⟩
  case round =>
    obtain ⟨j, hj, rfl, HO, HX⟩ := hrel
    by_cases hlt : j < ws.length
    · have hn : ws.length - 1 - j < ws.length := by omega
      have hy : ws[ws.length - 1 - j]? = some ws[ws.length - 1 - j] := List.getElem?_eq_getElem hn
      have RS := Lib.hid (invL_step ws j hlt _ hy)
      have YB := HS.out _ (List.getElem_mem hn)
      obtain ⟨A1, c1', e1, _, rd⟩ := V.out.ext HX.out
      rw [ints_length] at rd e1
      obtain ⟨ad, e2, ca⟩ := rd (by omega)
      injection e1 with e3 e4 e5
      subst e3 e5
      subst e2
      clear e4
      have c1 := ca (ws.length - 1 - j) _ (ints_get ws (ws.length - 1 - j) hn)
      have W1 : Hid ((ws.length : Int) - 1 - j = ((ws.length - 1 - j : Nat) : Int)) := by show _ = _; omega
      have W2 : Hid ((ws.length : Int) - 1 - (j + 1 : Nat) = ((ws.length - 1 - j : Nat) : Int) - 1) := by show _ = _; omega
      have ib : ((ws.length - 1 - j : Nat) : Int) < (ws.length : Int) := by omega
      have JL : Hid (((invL ws).take j).length ≤ j) := List.length_take_le _ _
      generalize ws[ws.length - 1 - j] = y at *
      generalize ws.length - 1 - j = i at *
      have i0 : (0 : Int) ≤ i := by omega
      have O2 := HO.out.ext ((Ext.refl _).alloc (.cells #[.int .i64 (-y)] 3))
      have RL : Hid (Reads (wr.alloc (.cells #[.int .i64 (-y)] 3)) (.slice (some ⟨wr.heap.size, 0, none⟩) 1 1) (ints [-y])) := (Own.lit wr 0 3 #[.int .i64 (-y)] (Nat.zero_le _) (by show 1 ≤ maxLen; decide)).reads
      have LL : Hid (((ints ((invL ws).take j)).length + (ints [-y]).length) * 8 ≤ 140737488355328) := by
        show _ ≤ _
        rw [ints_length, ints_length]
        have := JL.out
        simp only [List.length_singleton]
        omega
      have B1 := Lib.hid (HX.out.alloc (.cells #[.int .i64 (-y)] 3)).size
      rw [W1.out]
      clear ca rd hy hn
      go_wp2_with (at_builtin; refine wpList_app rfl (.tmp 12) (.tmp 18) 28 rfl w.heap.size 3 (.int .i64 0) 8 Tryz.underlying28 infoInt rfl (by omega) _ _ _ (ints [-y]) rfl rfl O2 RL.out (ints_one _) LL.out B1.out ?_; intro v4 w4 o4 g4 _)
      have X4 := Lib.hid ((HX.out.alloc _).grown g4 O2.lo)
      rw [ints_append, ← RS.out] at o4
      have O4 := Lib.hid o4
      clear o4 g4 O2 c1
      go_wp2_with fail
      exact ⟨⟨j + 1, by omega, by rw [W2.out], O4.out, X4.out⟩, by simp [intOf]⟩
    · have h1 : (ws.length : Int) - 1 - j < 0 := by omega
      have E : Hid ((invL ws).take j = invL ws) := List.take_of_length_le (by rw [invL_length]; omega)
      have h2 : ¬ (0 : Int) ≤ (ws.length : Int) - 1 - j := by omega
      go_wp2_with fail
      go_ret
      exact ⟨_, rfl, by have := HO.out; rw [E.out] at this; exact this, HX.out⟩
end Go.Proofs.YtijnadjgmmednaaGreat.N
namespace Go.Proofs.YtijnadjgmmednaaGreat.N
open Go.RowKit
def ptl (p : Tr × Tr) : List UInt8 := p.1.txt ++ 62 :: p.2.txt
def ptx (p : Tr × Tr) : ByteArray := S (ptl p)
theorem ptx_eq (p : Tr × Tr) : (tx p.1 ++ (⟨#[62]⟩ : ByteArray)) ++ tx p.2 = ptx p := by
  show (S _ ++ S [62]) ++ S _ = S _
  simp only [S_append, ptl]
  simp
theorem ptx_inj {p q : Tr × Tr} (h : ptx p = ptx q) : p = q := by
  have h1 := S_inj h
  unfold ptl at h1
  obtain ⟨h2, h3⟩ := txt_inj h1
  injection h3 with _ h4
  have h5 := txt_inj (r := []) (s := []) (by simpa using h4)
  exact Prod.ext h2 h5.1
set_option maxHeartbeats 3200000 in
set_option maxRecDepth 100000 in
theorem ptext_calls (A B : Tr) (hA : A.carets < 1000000) (hB : B.carets < 1000000) (pa pb : Option Addr) (w : World) (ra : Rep w A pa) (rb : Rep w B pb) :
    Calls Tryz.prog 59 #[.agg #[.pointer pa, .pointer pb]] w fun e w' => e = .returned (.string (ptx (A, B))) ∧ Ext w w' := by
  have X1 := Lib.hid ((Ext.refl w).alloc (.cells #[.pointer pa, .pointer pb] 62))
  have C1 := fun W (hx : Ext w W) => text_calls A pa W (by omega) (ra.ext hx)
  have C2 := fun W (hx : Ext w W) => text_calls B pb W (by omega) (rb.ext hx)
  obtain ⟨c0, c1⟩ := cells_of (heap_alloc_new w (.cells #[.pointer pa, .pointer pb] 62))
  have E : Hid ((tx A ++ (⟨#[62]⟩ : ByteArray)) ++ tx B = ptx (A, B)) := ptx_eq (A, B)
  have zl : (tx A).size ≤ 3000001 := by show A.txt.length ≤ _; rw [Tr.txt_length]; omega
  have zr : (tx B).size ≤ 3000001 := by show B.txt.length ≤ _; rw [Tr.txt_length]; omega
  clear ra rb hA hB
  generalize ptx (A, B) = z at *
  go_enter Tryz.func59, Tryz.ntmps59
  go_wp2_with fail
  generalize w.alloc (.cells #[.pointer pa, .pointer pb] 62) = W at *
  go_quiet (first
    | (go_at_call_of 77 (Value.pointer pa); refine Calls.quiet_of (C1 _ ?_); exact X1.out.drewN _)
    | (go_at_call_of 77 (Value.pointer pb); refine Calls.quiet_of (C2 _ ?_); exact X1.out.drewN _))
  go_wp2_with fail
  go_ret
  exact ⟨by rw [E.out]; rfl, X1.out.drewN _⟩
set_option maxHeartbeats 1600000 in
theorem prText_calls (A B : Tr) (hA : A.carets < 1000000) (hB : B.carets < 1000000) (w : World) :
    Calls Tryz.prog 63 #[.agg #[.string (tx A), .string (tx B)]] w fun e w' => e = .returned (.string (ptx (A, B))) ∧ Ext w w' := by
  have X1 := Lib.hid ((Ext.refl w).alloc (.cells #[.string (tx A), .string (tx B)] 25))
  have E : Hid ((tx A ++ (⟨#[62]⟩ : ByteArray)) ++ tx B = ptx (A, B)) := ptx_eq (A, B)
  have zl : (tx A).size ≤ 3000001 := by show A.txt.length ≤ _; rw [Tr.txt_length]; omega
  have zr : (tx B).size ≤ 3000001 := by show B.txt.length ≤ _; rw [Tr.txt_length]; omega
  generalize ptx (A, B) = z at *
  go_enter Tryz.func63, Tryz.ntmps63
  go_wp2_with fail
  go_ret
  exact ⟨by rw [E.out]; rfl, X1.out⟩
end Go.Proofs.YtijnadjgmmednaaGreat.N
namespace Go.Proofs.YtijnadjgmmednaaGreat.N
def ltP (y b : Tr × Tr) : Bool := decide (y.1.carets < b.1.carets) || (decide (y.1.carets = b.1.carets) && blt (ptx y) (ptx b))
theorem ltP_irr (a : Tr × Tr) : ltP a a = false := by simp [ltP, blt_irrefl]
theorem ltP_false {a b : Tr × Tr} : ltP a b = false ↔ b.1.carets ≤ a.1.carets ∧ (a.1.carets = b.1.carets → blt (ptx a) (ptx b) = false) := by
  unfold ltP
  simp only [Bool.or_eq_false_iff, Bool.and_eq_false_iff, decide_eq_false_iff_not, Nat.not_lt]
  constructor
  · rintro ⟨h1, h2⟩; exact ⟨h1, fun e => h2.resolve_left fun n => n e⟩
  · rintro ⟨h1, h2⟩; exact ⟨h1, by by_cases e : a.1.carets = b.1.carets; exact .inr (h2 e); exact .inl e⟩
theorem ltP_true {a b : Tr × Tr} : ltP a b = true ↔ a.1.carets < b.1.carets ∨ (a.1.carets = b.1.carets ∧ blt (ptx a) (ptx b) = true) := by
  unfold ltP; simp
theorem ltP_nt {a b c : Tr × Tr} (h1 : ltP a b = false) (h2 : ltP b c = false) : ltP a c = false := by
  rw [ltP_false] at *
  exact ⟨by omega, fun e => blt_ntrans (h1.2 (by omega)) (h2.2 (by omega))⟩
theorem ltP_asym {a b : Tr × Tr} (h : ltP a b = true) : ltP b a = false := by
  rw [ltP_true] at h; rw [ltP_false]
  rcases h with h | ⟨h1, h2⟩
  · exact ⟨by omega, fun e => by omega⟩
  · refine ⟨by omega, fun _ => ?_⟩
    cases h3 : blt (ptx b) (ptx a) with
    | false => rfl
    | true => have := blt_trans h2 h3; rw [blt_irrefl] at this; cases this
theorem ltP_tot {a b : Tr × Tr} (h1 : ltP a b = false) (h2 : ltP b a = false) : a = b := by
  rw [ltP_false] at *
  exact ptx_inj (blt_total (h1.2 (by omega)) (h2.2 (by omega)))
def conjsA (p : Tr × Tr) (n : Nat) : List (Tr × Tr) := (allW n).map fun w => conjF (red p) w
def conjsR (p : Tr × Tr) (n : Nat) : List (Tr × Tr) := (redWd n).map fun w => conj p (pairW w)
def leastA (p : Tr × Tr) : Nat → Tr × Tr
  | 0 => red p
  | n + 1 => leastL ltP (leastA p n) (conjsA p n)
def leastR (p : Tr × Tr) : Nat → Tr × Tr
  | 0 => red p
  | n + 1 => leastL ltP (leastR p n) (conjsR p (n + 1))
theorem leastL_app {α : Type} (less : α → α → Bool) (b : α) (l m : List α) : leastL less b (l ++ m) = leastL less (leastL less b l) m := by simp [leastL, List.foldl_append]
theorem leastA_flat (p : Tr × Tr) : ∀ n, leastA p n = leastL ltP (red p) ((List.range n).flatMap (conjsA p))
  | 0 => rfl
  | n + 1 => by rw [leastA, leastA_flat p n, List.range_succ, List.flatMap_append, leastL_app]; simp
theorem leastR_flat (p : Tr × Tr) : ∀ n, leastR p n = leastL ltP (red p) ((List.range n).flatMap fun k => conjsR p (k + 1))
  | 0 => rfl
  | n + 1 => by rw [leastR, leastR_flat p n, List.range_succ, List.flatMap_append, leastL_app]; simp
theorem least_eq {p : Tr × Tr} (hp : Bal p) (n : Nat) : leastA p (n + 1) = leastR p n := by
  rw [leastA_flat, leastR_flat]
  refine least_same ltP ltP_irr (fun _ _ _ => ltP_nt) (fun _ _ => ltP_asym) (fun _ _ => ltP_tot) _ _ _ ?_ ?_
  · intro y hy
    simp only [List.mem_flatMap, List.mem_range, conjsA, List.mem_map] at hy
    obtain ⟨k, hk, w, hw, rfl⟩ := hy
    rw [conjF_pairW hp (allW_nz hw)]
    obtain ⟨m, v, hm, hv, he⟩ := reduced_word k w hw
    rw [← he]
    cases m with
    | zero =>
      simp only [redWd, List.mem_singleton] at hv
      subst hv
      rw [← conjF_pairW hp (fun x hx => by cases hx)]
      exact List.mem_cons_self
    | succ m =>
      refine List.mem_cons_of_mem _ ?_
      simp only [List.mem_flatMap, List.mem_range, conjsR, List.mem_map]
      exact ⟨m, by omega, v, hv, rfl⟩
  · intro y hy
    simp only [List.mem_flatMap, List.mem_range, conjsR, List.mem_map] at hy
    obtain ⟨k, hk, w, hw, rfl⟩ := hy
    rw [redWd_eq, List.mem_filter] at hw
    refine List.mem_cons_of_mem _ ?_
    simp only [List.mem_flatMap, List.mem_range, conjsA, List.mem_map]
    exact ⟨k + 1, by omega, w, hw.1, conjF_pairW hp (allW_nz hw.1)⟩
end Go.Proofs.YtijnadjgmmednaaGreat.N
namespace Go.Proofs.YtijnadjgmmednaaGreat.N
open Go.RowKit
def gL (s : Tr × Tr) (xs : List Int) (y : Tr × Tr) : (Tr × Tr) × Bool := (if ltP y s then y else s, false)
def IL (c : Nat) (s : Tr × Tr) (w : World) : Prop := s.1.carets ≤ 100 ∧ s.2.carets ≤ 100 ∧ ∃ pa pb, w.heap[c]? = some (.cells #[.pointer pa, .pointer pb] 62) ∧ Rep w s.1 pa ∧ Rep w s.2 pb
theorem Rep.grownBy {w w' : World} {row : Option Nat} (h : w.grownBy w' row) (hr : ∀ k, row = some k → NotNode w k) {T p} (r : Rep w T p) : Rep w' T p :=
  r.far h fun k hk => let ⟨cs, e, fr, h1, h2⟩ := hr k hk; ⟨cs, e, fr, h1, h2⟩
theorem IL.ext {c : Nat} {s : Tr × Tr} {w w' : World} (h : IL c s w) (hx : Ext w w') : IL c s w' :=
  let ⟨h1, h2, pa, pb, h3, h4, h5⟩ := h; ⟨h1, h2, pa, pb, hx.at h3, h4.ext hx, h5.ext hx⟩
theorem set2_tch {c : Nat} {w W : World} (h : Ext w W) (hc : c < w.heap.size) (a b : Value) : Tch c none w (set2 W c a b) := by
  have hs : (set2 W c a b).heap.size = W.heap.size := by simp [set2, World.setCell]
  exact ⟨h.os, h.tape, h.output, by rw [hs]; exact h.size, fun k hk hkc _ => (set2_other hkc a b).trans (h.block k hk)⟩
set_option maxHeartbeats 6400000 in
set_option maxRecDepth 100000 in
theorem least_cb (s : Tr × Tr) (c : Nat) (w : World) (v : Value) (xs : List Int) (y : Tr × Tr) (pa pb : Option Addr) (hI : IL c s w) (hy : Bal y) (hc : y.2.carets ≤ 100) (rA : Rep w y.1 pa) (rB : Rep w y.2 pb) :
    Calls Tryz.prog 58 #[v, .agg #[.pointer pa, .pointer pb], .pointer (some ⟨c, 0, none⟩)] w fun e w' => e = .returned (.bool (gL s xs y).2) ∧ IL c (gL s xs y).1 w' ∧ Tch c none w w' := by
  obtain ⟨s1, s2, qa, qb, hb, rC, rD⟩ := hI
  have yc : y.1.carets ≤ 100 := by unfold Bal at hy; omega
  have clt := (Array.getElem?_eq_some_iff.1 hb).1
  have X1 := Lib.hid ((Ext.refl w).alloc (.cells #[.pointer pa, .pointer pb] 62))
  have B0 := heap_alloc_new w (.cells #[.pointer pa, .pointer pb] 62)
  obtain ⟨c0, c1⟩ := cells_of B0
  obtain ⟨c2, c3⟩ := cells_of (X1.out.at hb)
  have HB := Lib.hid hb
  have RR : Hid (Rep w y.1 pa ∧ Rep w y.2 pb ∧ Rep w s.1 qa ∧ Rep w s.2 qb) := ⟨rA, rB, rC, rD⟩
  have BB : Hid (s.1.carets ≤ 100 ∧ s.2.carets ≤ 100 ∧ y.1.carets ≤ 100 ∧ y.2.carets ≤ 100) := ⟨s1, s2, yc, hc⟩
  have C1 := fun W (hx : Ext w W) => carets_calls y.1 pa W (by omega) (rA.ext hx)
  have C2 := fun W (hx : Ext w W) => carets_calls s.1 qa W (by omega) (rC.ext hx)
  have P1 := fun W (hx : Ext w W) => ptext_calls y.1 y.2 (by omega) (by omega) pa pb W (rA.ext hx) (rB.ext hx)
  have P2 := fun W (hx : Ext w W) => ptext_calls s.1 s.2 (by omega) (by omega) qa qb W (rC.ext hx) (rD.ext hx)
  have HL : Hid (∀ b, ltP y s = b → gL s xs y = (if b then y else s, false)) := fun b hb => by unfold gL; rw [hb]
  have L1 := @ltP_true y s
  have L2 := @ltP_false y s
  have HX := Lib.hid (fun W (hx : Ext w W) => And.intro (hx.cell (cells_of hb).1) (hx.cell (cells_of hb).2))
  clear hy rA rB rC rD hb B0
  go_enter Tryz.func58, Tryz.ntmps58
  go_wp2_with fail
  generalize w.alloc (.cells #[.pointer pa, .pointer pb] 62) = W at *
  go_quiet (first
    | (go_at_call_of 52 (Value.pointer pa); refine Calls.quiet_of (C1 _ ?_); exact X1.out.drewN _)
    | (go_at_call_of 52 (Value.pointer qa); refine Calls.quiet_of (C2 _ ?_); exact X1.out.drewN _))
  have XA := Lib.hid (X1.out.drewN nq)
  have c0 := ((Ext.refl W).drewN nq).cell c0
  have c1 := ((Ext.refl W).drewN nq).cell c1
  have c2 := ((Ext.refl W).drewN nq).cell c2
  have c3 := ((Ext.refl W).drewN nq).cell c3
  generalize W.drewN nq = W1 at *
  have FT : Hid (∀ W2, Ext w W2 → ltP y s = true → (gL s xs y).2 = false ∧ IL c (gL s xs y).1 (N.set2 W2 c (.pointer pa) (.pointer pb)) ∧ Tch c none w (N.set2 W2 c (.pointer pa) (.pointer pb))) := by
    intro W2 hx hl
    rw [HL.out _ hl]
    have T2 : Two W2 c 62 := ⟨_, _, hx.at HB.out⟩
    exact ⟨rfl, ⟨BB.out.2.2.1, BB.out.2.2.2, pa, pb, set2_heap T2 _ _, Rep.set2 T2 (by decide) _ _ (RR.out.1.ext hx), Rep.set2 T2 (by decide) _ _ (RR.out.2.1.ext hx)⟩, set2_tch hx clt _ _⟩
  have FF : Hid (∀ W2, Ext w W2 → ltP y s = false → (gL s xs y).2 = false ∧ IL c (gL s xs y).1 W2 ∧ Tch c none w W2) := by
    intro W2 hx hl
    rw [HL.out _ hl]
    exact ⟨rfl, ⟨BB.out.1, BB.out.2.1, qa, qb, hx.at HB.out, RR.out.2.2.1.ext hx, RR.out.2.2.2.ext hx⟩, (Tch.refl c none w).ext hx⟩
  have T0 : Hid (∀ W2, Ext w W2 → Two W2 c 62) := fun W2 hx => ⟨_, _, hx.at HB.out⟩
  rw [show (y.1, y.2) = y from rfl] at P1
  rw [show (s.1, s.2) = s from rfl] at P2
  have n0 : (0 : Int) ≤ y.1.carets := by omega
  have n1 : (0 : Int) ≤ s.1.carets := by omega
  by_cases h1 : y.1.carets < s.1.carets
  · have FT := Lib.hid (fun W2 hx => FT.out W2 hx (L1.2 (.inl h1)))
    have g1 : (y.1.carets : Int) < s.1.carets := by omega
    clear FF L1 L2 C1 C2 P1 P2
    generalize (y.1.carets : Int) = m at *
    generalize (s.1.carets : Int) = n at *
    go_wp2_with fail
    go_quiet (fail)
    have XB := Lib.hid (XA.out.drewN nq)
    have c0 := ((Ext.refl W1).drewN nq).cell c0
    have c1 := ((Ext.refl W1).drewN nq).cell c1
    generalize W1.drewN nq = W2 at *
    obtain ⟨u, v', k0, k1, f0, f1⟩ := (T0.out _ XB.out).facts
    go_wp2_with fail
    change bodyPost _ _ _ _ _ (N.set2 W2 c (.pointer pa) (.pointer pb))
    have F := FT.out _ XB.out
    generalize N.set2 W2 c (.pointer pa) (.pointer pb) = W3 at *
    clear HB c2 c3 k0 k1 f0 f1
    go_ret
    exact ⟨by rw [F.1]; rfl, F.2⟩
  · have g1 : ¬ (y.1.carets : Int) < s.1.carets := by omega
    by_cases h2 : y.1.carets = s.1.carets
    · have g2 : ((y.1.carets : Int) == s.1.carets) = true := by rw [h2]; simp
      cases h3 : blt (ptx y) (ptx s) with
      | true =>
        have FT := Lib.hid (fun W2 hx => FT.out W2 hx (L1.2 (.inr ⟨h2, h3⟩)))
        have g3 : Op.bytesLess (ptx y).toList (ptx s).toList = true := h3
        clear FF L1 L2 C1 C2 h1 h2 h3
        generalize (y.1.carets : Int) = m at *
        generalize (s.1.carets : Int) = n at *
        generalize ptx y = ty at *
        generalize ptx s = ts at *
        have d1 : decide (m < n) = false := decide_eq_false g1
        have KX : ∀ w', Ext W1 w' → w'.cell? ⟨w.heap.size, 0, none⟩ = some (.pointer pa) ∧ w'.cell? ⟨w.heap.size, 1, none⟩ = some (.pointer pb) ∧ w'.cell? ⟨c, 0, none⟩ = some (.pointer qa) ∧ w'.cell? ⟨c, 1, none⟩ = some (.pointer qb) ∧ Ext w w' := fun w' h => ⟨h.cell c0, h.cell c1, h.cell c2, h.cell c3, XA.out.trans h⟩
        go_wp2_with fail
        go_region_held3 (fun w' => w'.cell? ⟨w.heap.size, 0, none⟩ = some (.pointer pa) ∧ w'.cell? ⟨w.heap.size, 1, none⟩ = some (.pointer pb) ∧ w'.cell? ⟨c, 0, none⟩ = some (.pointer qa) ∧ w'.cell? ⟨c, 1, none⟩ = some (.pointer qb) ∧ Ext w w')
          (first | with_reducible exact KX _ (Ext.refl _).drew | with_reducible exact KX _ x2 | with_reducible exact KX _ x3 | fail)
          (first
            | (go_at_call_of 59 (Value.agg #[Value.pointer pa, Value.pointer pb]); refine (P1 _ (XA.out.trans (Ext.refl _).drew)).mono ?_; rintro e w2 ⟨rfl, hx⟩; have x2 := (Ext.refl W1).drew.trans hx)
            | (go_at_call_of 59 (Value.agg #[Value.pointer qa, Value.pointer qb]); refine (P2 _ (XA.out.trans x2)).mono ?_; rintro e w3 ⟨rfl, hx⟩; have x3 := x2.trans hx)
            | fail)
        have XB := Lib.hid (XA.out.trans x3)
        have c0 := x3.cell c0
        have c1 := x3.cell c1
        obtain ⟨u, v', k0, k1, f0, f1⟩ := (T0.out _ XB.out).facts
        clear x2 x3 hx
        go_wp2_with fail
        change bodyPost _ _ _ _ _ (N.set2 w3 c (.pointer pa) (.pointer pb))
        have F := FT.out _ XB.out
        generalize N.set2 w3 c (.pointer pa) (.pointer pb) = W3 at *
        clear HB c2 c3 k0 k1 f0 f1
        go_ret
        exact ⟨by rw [F.1]; rfl, F.2⟩
      | false =>
        have FF := Lib.hid (fun W2 hx => FF.out W2 hx (L2.2 ⟨by omega, fun _ => h3⟩))
        have g3 : Op.bytesLess (ptx y).toList (ptx s).toList = false := h3
        clear FT L1 L2 C1 C2 h1 h2 h3
        generalize (y.1.carets : Int) = m at *
        generalize (s.1.carets : Int) = n at *
        generalize ptx y = ty at *
        generalize ptx s = ts at *
        have d1 : decide (m < n) = false := decide_eq_false g1
        have KX : ∀ w', Ext W1 w' → w'.cell? ⟨w.heap.size, 0, none⟩ = some (.pointer pa) ∧ w'.cell? ⟨w.heap.size, 1, none⟩ = some (.pointer pb) ∧ w'.cell? ⟨c, 0, none⟩ = some (.pointer qa) ∧ w'.cell? ⟨c, 1, none⟩ = some (.pointer qb) ∧ Ext w w' := fun w' h => ⟨h.cell c0, h.cell c1, h.cell c2, h.cell c3, XA.out.trans h⟩
        go_wp2_with fail
        go_region_held3 (fun w' => w'.cell? ⟨w.heap.size, 0, none⟩ = some (.pointer pa) ∧ w'.cell? ⟨w.heap.size, 1, none⟩ = some (.pointer pb) ∧ w'.cell? ⟨c, 0, none⟩ = some (.pointer qa) ∧ w'.cell? ⟨c, 1, none⟩ = some (.pointer qb) ∧ Ext w w')
          (first | with_reducible exact KX _ (Ext.refl _).drew | with_reducible exact KX _ x2 | with_reducible exact KX _ x3 | fail)
          (first
            | (go_at_call_of 59 (Value.agg #[Value.pointer pa, Value.pointer pb]); refine (P1 _ (XA.out.trans (Ext.refl _).drew)).mono ?_; rintro e w2 ⟨rfl, hx⟩; have x2 := (Ext.refl W1).drew.trans hx)
            | (go_at_call_of 59 (Value.agg #[Value.pointer qa, Value.pointer qb]); refine (P2 _ (XA.out.trans x2)).mono ?_; rintro e w3 ⟨rfl, hx⟩; have x3 := x2.trans hx)
            | fail)
        have XB := Lib.hid (XA.out.trans x3)
        have F := FF.out _ XB.out
        clear x2 x3 hx
        go_wp2_with fail
        go_ret
        exact ⟨by rw [F.1]; rfl, F.2⟩
    · have FF := Lib.hid (fun W2 hx => FF.out W2 hx (L2.2 ⟨by omega, fun h => absurd h h2⟩))
      have g2 : ((y.1.carets : Int) == s.1.carets) = false := by rw [beq_eq_false_iff_ne]; omega
      clear FT L1 L2 C1 C2 P1 P2 h1 h2
      generalize (y.1.carets : Int) = m at *
      generalize (s.1.carets : Int) = n at *
      go_wp2_with fail
      go_quiet (fail)
      have XB := Lib.hid (XA.out.drewN nq)
      have F := FF.out _ XB.out
      go_wp2_with fail
      go_ret
      exact ⟨by rw [F.1]; rfl, F.2⟩
theorem least_isCb (b0 c : Nat) (hc : c < b0) : Cb b0 c 58 #[.pointer (some ⟨c, 0, none⟩)] gL (IL c) (fun _ => True) where
  run := run_of Tryz.func58 (by kernel_rfl) (by kernel_rfl)
  low := hc
  box := fun s w ⟨_, _, pa, pb, h, _⟩ => ⟨_, _, _, h, by decide⟩
  stab := fun s w w' row _ ⟨h1, h2, pa, pb, h3, h4, h5⟩ hg hr => ⟨h1, h2, pa, pb, (hg.block c (Array.getElem?_eq_some_iff.1 h3).1 (fun e => by have := (hr c e.symm).1; omega)).trans h3, h4.grownBy hg (fun k hk => (hr k hk).2), h5.grownBy hg (fun k hk => (hr k hk).2)⟩
  ext := fun s w w' h hx => h.ext hx
  next := fun _ _ _ _ _ => trivial
  call := fun s w v xs y pa pb _ hI _ _ hy hc rA rB => least_cb s c w v xs y pa pb hI hy hc rA rB
theorem runL_false {σ : Type} (f : Int → σ → σ × Bool) (h : Int → σ → σ) (hf : ∀ x s, f x s = (h x s, false)) : ∀ (l : List Int) (s : σ), runL f l s = (l.foldl (fun s x => h x s) s, false)
  | [], s => rfl
  | x :: l, s => by simp only [runL, hf, Bool.false_eq_true, if_false, List.foldl_cons]; exact runL_false f h hf l _
theorem runW_least : ∀ (n : Nat) (xs : List Int) (y s : Tr × Tr), runW gL n xs y s = (leastL ltP s ((allW n).map fun w => conjF y w), false)
  | 0, xs, y, s => rfl
  | n + 1, xs, y, s => by
    rw [runW_two, runL_false _ (fun x s => leastL ltP s ((allW n).map fun w => conjF (conj y (letP x)) w)) (fun x s => runW_least n _ _ _)]
    congr 1
    rw [allW]
    generalize lts = l
    induction l generalizing s with
    | nil => rfl
    | cons x l ih =>
      rw [List.flatMap_cons, List.map_append, leastL_app, List.foldl_cons, ih, List.map_map]
      rfl
set_option maxHeartbeats 1600000 in
theorem isMost_calls (n : Int) (w : World) :
    Calls Tryz.prog 32 #[.int .i64 n] w fun e w' => e = .returned (.bool (decide (0 ≤ n ∧ n ≤ 4))) ∧ w = w' := by
  by_cases h1 : 0 ≤ n
  · by_cases h2 : n ≤ 4
    · rw [decide_eq_true ⟨h1, h2⟩]
      go_enter Tryz.func32, Tryz.ntmps32
      go_wp2_with fail
      go_ret
      exact ⟨rfl, rfl⟩
    · rw [decide_eq_false (fun h => h2 h.2)]
      go_enter Tryz.func32, Tryz.ntmps32
      go_wp2_with fail
      go_ret
      exact ⟨rfl, rfl⟩
  · rw [decide_eq_false (fun h => h1 h.1)]
    go_enter Tryz.func32, Tryz.ntmps32
    go_wp2_with fail
    go_ret
    exact ⟨rfl, rfl⟩
end Go.Proofs.YtijnadjgmmednaaGreat.N
namespace Go.Proofs.YtijnadjgmmednaaGreat.N
open Go.RowKit
def gF (goal : ByteArray) (s : Option (List Int)) (xs : List Int) (y : Tr × Tr) : Option (List Int) × Bool := if ptx y = goal then (some xs, true) else (s, false)
def fitsA (goal : ByteArray) (y : Tr × Tr) (w : List Int) : Bool := decide (ptx (conjF y w) = goal)
theorem runL_find {α : Type} (F : Int → Option α) (f : Int → Option α → Option α × Bool) (hf : ∀ x, f x none = match F x with | some a => (some a, true) | none => (none, false)) : ∀ l, runL f l none = match l.findSome? F with | some a => (some a, true) | none => (none, false)
  | [] => rfl
  | x :: l => by
    simp only [runL, hf, List.findSome?_cons]
    cases F x with
    | some a => simp
    | none => simp only [Bool.false_eq_true, if_false]; exact runL_find F f hf l
theorem find_map_cons (x : Int) (P : List Int → Bool) : ∀ L : List (List Int), (L.map (x :: ·)).find? P = (L.find? fun w => P (x :: w)).map (x :: ·)
  | [] => rfl
  | w :: L => by
    simp only [List.map_cons, List.find?_cons]
    cases P (x :: w) with
    | true => rfl
    | false => exact find_map_cons x P L
theorem findSome_map {α β : Type} (h : α → β) (F : Int → Option α) : ∀ l : List Int, l.findSome? (fun x => (F x).map h) = (l.findSome? F).map h
  | [] => rfl
  | x :: l => by
    simp only [List.findSome?_cons]
    cases F x with
    | some a => rfl
    | none => exact findSome_map h F l
theorem runW_find (goal : ByteArray) : ∀ (n : Nat) (xs : List Int) (y : Tr × Tr), runW (gF goal) n xs y none = match (allW n).find? (fitsA goal y) with | some w => (some (xs ++ w), true) | none => (none, false)
  | 0, xs, y => by
    have e : fitsA goal y [] = decide (ptx y = goal) := rfl
    simp only [runW, gF, allW, List.find?_cons, List.find?_nil, e]
    by_cases h : ptx y = goal
    · rw [if_pos h, decide_eq_true h]; simp
    · rw [if_neg h, decide_eq_false h]
  | n + 1, xs, y => by
    rw [runW_two, runL_find (fun x => ((allW n).find? (fitsA goal (conj y (letP x)))).map fun w => xs ++ ([x] ++ w))]
    · rw [allW, List.find?_flatMap]
      have e : (fun x => ((allW n).map (x :: ·)).find? (fitsA goal y)) = fun x => (((allW n).find? (fitsA goal (conj y (letP x)))).map fun w => [x] ++ w) := by
        funext x
        rw [find_map_cons]; rfl
      rw [e]
      have e2 : (fun x => ((allW n).find? (fitsA goal (conj y (letP x)))).map fun w => xs ++ ([x] ++ w)) = fun x => ((((allW n).find? (fitsA goal (conj y (letP x)))).map fun w => [x] ++ w)).map fun w => xs ++ w := by
        funext x
        rw [Option.map_map]; rfl
      rw [e2, findSome_map]
      cases lts.findSome? fun x => (((allW n).find? (fitsA goal (conj y (letP x)))).map fun w => [x] ++ w) with
      | some a => rfl
      | none => rfl
    · intro x
      rw [runW_find goal n]
      cases (allW n).find? (fitsA goal (conj y (letP x))) with
      | some w => simp
      | none => rfl
def conjugA (p : Tr × Tr) (goal : ByteArray) (n k : Nat) : Option (List Int) := firstW allW (fitsA goal (red p)) n k
def fitsR (p : Tr × Tr) (goal : ByteArray) (w : List Int) : Bool := decide (ptx (conj p (pairW w)) = goal)
theorem find_congr {α : Type} (P Q : α → Bool) : ∀ l : List α, (∀ w ∈ l, P w = Q w) → l.find? P = l.find? Q
  | [], _ => rfl
  | a :: l, h => by
    rw [List.find?_cons, List.find?_cons, h a List.mem_cons_self]
    cases Q a with
    | true => rfl
    | false => exact find_congr P Q l fun w hw => h w (List.mem_cons_of_mem _ hw)
theorem firstW_congr (W : Nat → List (List Int)) (P Q : List Int → Bool) (h : ∀ n, ∀ w ∈ W n, P w = Q w) : ∀ k n, firstW W P n k = firstW W Q n k
  | 0, n => rfl
  | k + 1, n => by
    simp only [firstW]
    rw [find_congr P Q _ (h n)]
    cases (W n).find? Q with
    | some w => rfl
    | none => exact firstW_congr W P Q h k (n + 1)
theorem conjug_eq {p : Tr × Tr} (hp : Bal p) (goal : ByteArray) (k : Nat) : conjugA p goal 0 k = firstW redWd (fitsR p goal) 0 k := by
  rw [first_same (fitsR p goal) (fun v w h => by unfold fitsR; rw [h]) k 0 (fun m hm => absurd hm (Nat.not_lt_zero m))]
  unfold conjugA
  exact firstW_congr _ _ _ (fun n w hw => by unfold fitsA fitsR; rw [conjF_pairW hp (allW_nz hw)]) _ _
def FoundV (w : World) (base : Nat) (v : Value) : Option (List Int) → Prop
  | none => v = .slice none 0 0
  | some xs => Own w base 3 v (ints xs)
def IF (tb c eb : Nat) (goal : ByteArray) (s : Option (List Int)) (w : World) : Prop := w.heap[tb]? = some (.cells #[.string goal] 9) ∧ ∃ v, w.heap[c]? = some (.cells #[v] 28) ∧ FoundV w eb v s
theorem FoundV.ext {w w' : World} {base : Nat} {v : Value} {s : Option (List Int)} (h : FoundV w base v s) (hx : Ext w w') : FoundV w' base v s := by
  cases s with
  | none => exact h
  | some xs => exact Own.ext h hx
theorem IF.ext {tb c eb : Nat} {goal : ByteArray} {s : Option (List Int)} {w w' : World} (h : IF tb c eb goal s w) (hx : Ext w w') : IF tb c eb goal s w' :=
  let ⟨h1, v, h2, h3⟩ := h; ⟨hx.at h1, v, hx.at h2, h3.ext hx⟩
def set1 (w : World) (c : Nat) (v : Value) : World := w.setCell ⟨c, 0, none⟩ v
theorem set1_other {w : World} {c k : Nat} (hk : k ≠ c) (v : Value) : (set1 w c v).heap[k]? = w.heap[k]? := by
  unfold set1
  rw [Below.heap_setCell _ _ _ _ (by exact hk)]
theorem set1_heap {w : World} {c : Nat} {u : Value} {t : TypeId} (h : w.heap[c]? = some (.cells #[u] t)) (v : Value) : (set1 w c v).heap[c]? = some (.cells #[v] t) := heap_setCell_same w c 0 #[u] t v h
theorem one_facts {w : World} {c : Nat} {u : Value} {t : TypeId} (h : w.heap[c]? = some (.cells #[u] t)) : w.cell? ⟨c, 0, none⟩ = some u ∧ w.frozen? ⟨c, 0, none⟩ = false := by
  simp [World.cell?, World.frozen?, h]
theorem set1_tch {c : Nat} {w W : World} (h : Ext w W) (v : Value) : Tch c none w (set1 W c v) := by
  have hs : (set1 W c v).heap.size = W.heap.size := by simp [set1, World.setCell]
  exact ⟨h.os, h.tape, h.output, by rw [hs]; exact h.size, fun k hk hkc _ => (set1_other hkc v).trans (h.block k hk)⟩
set_option maxHeartbeats 6400000 in
set_option maxRecDepth 100000 in
theorem find_cb (goal : ByteArray) (tb c eb : Nat) (htc : tb ≠ c) (w : World) (heb : eb ≤ w.heap.size) (v : Value) (xs : List Int) (y : Tr × Tr) (pa pb : Option Addr) (hI : IF tb c eb goal none w) (hcb : c < eb ∨ True) (hv : Reads w v (ints xs)) (hxl : xs.length ≤ 10) (hy : Bal y) (hc : y.2.carets ≤ 100) (rA : Rep w y.1 pa) (rB : Rep w y.2 pb) :
    Calls Tryz.prog 73 #[v, .agg #[.pointer pa, .pointer pb], .pointer (some ⟨tb, 0, none⟩), .pointer (some ⟨c, 0, none⟩)] w fun e w' => e = .returned (.bool (gF goal none xs y).2) ∧ IF tb c eb goal (gF goal none xs y).1 w' ∧ Tch c none w w' := by
  obtain ⟨hT, vc, hC, rfl⟩ := hI
  have yc : y.1.carets ≤ 100 := by unfold Bal at hy; omega
  have X1 := Lib.hid ((Ext.refl w).alloc (.cells #[.pointer pa, .pointer pb] 62))
  obtain ⟨c0, c1⟩ := cells_of (heap_alloc_new w (.cells #[.pointer pa, .pointer pb] 62))
  obtain ⟨c2, _⟩ := one_facts (X1.out.at hT)
  have HT := Lib.hid hT
  have HC := Lib.hid hC
  have V := Lib.hid hv
  have HB := Lib.hid heb
  have LX := Lib.hid hxl
  have P1 := fun W (hx : Ext w W) => ptext_calls y.1 y.2 (by omega) (by omega) pa pb W (rA.ext hx) (rB.ext hx)
  rw [show (y.1, y.2) = y from rfl] at P1
  obtain ⟨AA, cc, rfl, _, _⟩ := hv
  rw [ints_length] at *
  clear hy rA rB hT hC heb hcb hc yc hxl
  by_cases hg : ptx y = goal
  · have HG : Hid (gF goal none xs y = (some xs, true)) := by show _ = _; unfold gF; rw [if_pos hg]
    have t1 : ((ptx y).toList == goal.toList) = true := by rw [hg]; simp
    rw [HG.out]
    generalize ptx y = ty at *
    clear hg
    go_enter Tryz.func73, Tryz.ntmps73
    go_wp2_with fail
    generalize w.alloc (.cells #[.pointer pa, .pointer pb] 62) = W at *
    have KX : ∀ w', Ext W w' → w'.cell? ⟨w.heap.size, 0, none⟩ = some (.pointer pa) ∧ w'.cell? ⟨w.heap.size, 1, none⟩ = some (.pointer pb) ∧ w'.cell? ⟨tb, 0, none⟩ = some (.string goal) := fun w' h => ⟨h.cell c0, h.cell c1, h.cell c2⟩
    go_region_held3 (fun w' => w'.cell? ⟨w.heap.size, 0, none⟩ = some (.pointer pa) ∧ w'.cell? ⟨w.heap.size, 1, none⟩ = some (.pointer pb) ∧ w'.cell? ⟨tb, 0, none⟩ = some (.string goal))
      (first | with_reducible exact KX _ (Ext.refl _).drew | with_reducible exact KX _ x2 | fail)
      (first
        | (go_at_call 59; refine (P1 _ (X1.out.drew)).mono ?_; rintro e w2 ⟨rfl, hx⟩; have x2 := (Ext.refl W).drew.trans hx)
        | fail)
    have X2 := Lib.hid (X1.out.trans x2)
    have HC2 := Lib.hid (X2.out.at HC.out)
    have HT2 := Lib.hid (X2.out.at HT.out)
    have V2 := (V.out.ext X2.out)
    obtain ⟨d0, d1⟩ := one_facts HC2.out
    clear x2 hx c0 c1 c2 KX
    have L5 : Hid (((ints []).length + (ints xs).length) * 8 ≤ 140737488355328) := by show _ ≤ _; rw [ints_length, ints_length]; have := LX.out; simp; omega
    have B5 : Hid (eb ≤ w2.heap.size) := Nat.le_trans HB.out X2.out.size
    have ON : Own w2 eb 3 (.slice none 0 0) (ints []) := Own.nil _ _ _
    go_wp2_with (at_builtin; refine wpList_app rfl (.tmp 11) (.tmp 12) 28 rfl eb 3 (.int .i64 0) 8 Tryz.underlying28 infoInt rfl (by omega) _ _ _ (ints xs) rfl rfl ON V2 (ints_one _) L5.out B5.out ?_; intro v6 w6 o6 g6 _; obtain ⟨A6, n6, c6, rfl⟩ : ∃ A n c, v6 = .slice A n c := (let ⟨A, c, e, _⟩ := o6.reads; ⟨A, _, c, e⟩); have x6 : Ext w2 w6 := (Ext.refl w2).grown g6 (fun k hk => by cases hk); have HC6 := x6.at HC2.out; obtain ⟨d0, d1⟩ := one_facts HC6)
    have FI : Hid (IF tb c eb goal (some xs) (set1 w6 c (.slice A6 n6 c6))) := by
      refine ⟨(set1_other htc _).trans (x6.at HT2.out), _, set1_heap HC6 _, ?_⟩
      exact Own.same o6 fun k hk => set1_other (fun e => by
        subst e
        obtain ⟨cs, fr, h3⟩ := o6.typed k hk
        rw [HC6] at h3
        injection h3 with h3
        injection h3 with _ h4
        exact absurd h4 (by decide)) _
    have FT := Lib.hid (set1_tch (c := c) (X2.out.trans x6) (.slice A6 n6 c6))
    clear o6 g6 x6 ON V2 HC6
    go_wp2_with fail
    go_ret
    exact ⟨rfl, FI.out, FT.out⟩
  · have HG : Hid (gF goal none xs y = (none, false)) := by show _ = _; unfold gF; rw [if_neg hg]
    have t1 : ((ptx y).toList == goal.toList) = false := by rw [beq_eq_false_iff_ne]; intro h; exact hg (ba_ext h)
    rw [HG.out]
    generalize ptx y = ty at *
    clear hg
    go_enter Tryz.func73, Tryz.ntmps73
    go_wp2_with fail
    generalize w.alloc (.cells #[.pointer pa, .pointer pb] 62) = W at *
    have KX : ∀ w', Ext W w' → w'.cell? ⟨w.heap.size, 0, none⟩ = some (.pointer pa) ∧ w'.cell? ⟨w.heap.size, 1, none⟩ = some (.pointer pb) ∧ w'.cell? ⟨tb, 0, none⟩ = some (.string goal) := fun w' h => ⟨h.cell c0, h.cell c1, h.cell c2⟩
    go_region_held3 (fun w' => w'.cell? ⟨w.heap.size, 0, none⟩ = some (.pointer pa) ∧ w'.cell? ⟨w.heap.size, 1, none⟩ = some (.pointer pb) ∧ w'.cell? ⟨tb, 0, none⟩ = some (.string goal))
      (first | with_reducible exact KX _ (Ext.refl _).drew | with_reducible exact KX _ x2 | fail)
      (first
        | (go_at_call 59; refine (P1 _ (X1.out.drew)).mono ?_; rintro e w2 ⟨rfl, hx⟩; have x2 := (Ext.refl W).drew.trans hx)
        | fail)
    have X2 := Lib.hid (X1.out.trans x2)
    clear x2 hx c0 c1 c2 KX
    go_wp2_with fail
    go_ret
    exact ⟨rfl, ⟨X2.out.at HT.out, _, X2.out.at HC.out, rfl⟩, (Tch.refl c none w).ext X2.out⟩
def IG (tb c eb : Nat) (goal : ByteArray) (s : Option (List Int)) (w : World) : Prop := IF tb c eb goal s w ∧ eb ≤ w.heap.size
theorem find_isCb (b0 c tb eb : Nat) (goal : ByteArray) (hc : c < b0) (htb : tb < b0) (hne : tb ≠ c) : Cb b0 c 73 #[.pointer (some ⟨tb, 0, none⟩), .pointer (some ⟨c, 0, none⟩)] (gF goal) (IG tb c eb goal) (fun s => s = none) where
  run := run_of Tryz.func73 (by kernel_rfl) (by kernel_rfl)
  low := hc
  box := fun s w ⟨⟨_, v, h, _⟩, _⟩ => ⟨_, _, _, h, by decide⟩
  stab := fun s w w' row hs ⟨⟨h1, v, h2, h3⟩, h4⟩ hg hr => by
    subst hs
    exact ⟨⟨(hg.block tb (Array.getElem?_eq_some_iff.1 h1).1 (fun e => by have := (hr tb e.symm).1; omega)).trans h1, v, (hg.block c (Array.getElem?_eq_some_iff.1 h2).1 (fun e => by have := (hr c e.symm).1; omega)).trans h2, h3⟩, Nat.le_trans h4 hg.size⟩
  ext := fun s w w' h hx => ⟨h.1.ext hx, Nat.le_trans h.2 hx.size⟩
  next := fun s xs y hs h => by
    unfold gF at *
    split
    · rename_i he; rw [if_pos he] at h; cases h
    · exact hs
  call := fun s w v xs y pa pb hs ⟨hI, he⟩ hv hx hy hcc rA rB => by
    subst hs
    refine (find_cb goal tb c eb hne w he v xs y pa pb hI (.inr trivial) hv hx hy hcc rA rB).mono ?_
    rintro e w' ⟨h1, h2, h3⟩
    exact ⟨h1, ⟨h2, Nat.le_trans he h3.size⟩, h3⟩
def foundF : Option (List Int) → Bool
  | none => false
  | some _ => true
theorem conjugA_step (p : Tr × Tr) (goal : ByteArray) (n k : Nat) : conjugA p goal n (k + 1) = match (allW n).find? (fitsA goal (red p)) with | some w => some w | none => conjugA p goal (n + 1) k := rfl
set_option maxHeartbeats 6400000 in
set_option maxRecDepth 100000 in
theorem conjugator_calls (A B C D : Tr) (hc : A.carets = B.carets) (hB : B.carets ≤ 8) (hd : C.carets = D.carets) (hD : D.carets ≤ 8) (n : Nat) (hn : n ≤ 4) (p1 p2 p3 p4 : Option Addr) (w : World) (r1 : Rep w A p1) (r2 : Rep w B p2) (r3 : Rep w C p3) (r4 : Rep w D p4) :
    Calls Tryz.prog 33 #[.agg #[.pointer p1, .pointer p2], .agg #[.pointer p3, .pointer p4], .int .i64 n] w fun e w' => ∃ v, e = .returned (.tuple #[v, .bool (foundF (conjugA (A, B) (ptx (red (C, D))) 0 (n + 1)))]) ∧ FoundV w' w.heap.size v (conjugA (A, B) (ptx (red (C, D))) 0 (n + 1)) ∧ Ext w w' := by
  have X2 := Lib.hid (((Ext.refl w).alloc (.cells #[.pointer p1, .pointer p2] 62)).alloc (.cells #[.pointer p3, .pointer p4] 62))
  have B3 := Lib.hid (((Ext.refl _).alloc (.cells #[.pointer p3, .pointer p4] 62)).at (heap_alloc_new w (.cells #[.pointer p1, .pointer p2] 62)))
  have B4 := heap_alloc_new (w.alloc (.cells #[.pointer p1, .pointer p2] 62)) (.cells #[.pointer p3, .pointer p4] 62)
  rw [show (w.alloc (.cells #[.pointer p1, .pointer p2] 62)).heap.size = w.heap.size + 1 by simp] at B4
  have B4 := Lib.hid B4
  have R1 := Lib.hid (r1.ext X2.out)
  have R2 := Lib.hid (r2.ext X2.out)
  have R3 := Lib.hid (r3.ext X2.out)
  have R4 := Lib.hid (r4.ext X2.out)
  have CR := Lib.hid (fun pa pb W => reduced_calls C D (by omega) (by omega) pa pb W)
  have CP := Lib.hid (fun pa pb W => reduced_calls A B (by omega) (by omega) pa pb W)
  have hs : Hid (Bal (red (A, B)) ∧ (red (A, B)).2.carets ≤ 8) := ⟨red_same (p := (A, B)) hc, by have := (red_le (A, B)).2; simp only at this; omega⟩
  have hq : Hid ((red (C, D)).1.carets ≤ 8 ∧ (red (C, D)).2.carets ≤ 8) := by have := red_le (C, D); simp only at this; exact ⟨by omega, by omega⟩
  have CT := Lib.hid (fun pa pb W => ptext_calls (red (C, D)).1 (red (C, D)).2 (by have := hq.out; omega) (by have := hq.out; omega) pa pb W)
  rw [show ((red (C, D)).1, (red (C, D)).2) = red (C, D) from rfl] at CT
  have HST := Lib.hid (fun goal n k => conjugA_step (A, B) goal n k)
  have H0 : Hid (∀ goal n, conjugA (A, B) goal n 0 = none) := fun goal n => rfl
  have RW := Lib.hid (fun goal k => runW_find goal k [] (red (A, B)))
  have hn' : (n : Int) ≤ 4 := by omega
  generalize conjugA (A, B) = L at *
  generalize red (A, B) = p0 at *
  generalize red (C, D) = q0 at *
  generalize ptx q0 = goal at *
  clear r1 r2 r3 r4 hc hB hd hD hq
  obtain ⟨c0, c1⟩ := cells_of B3.out
  obtain ⟨c2, c3⟩ := cells_of B4.out
  go_enter Tryz.func33, Tryz.ntmps33
  go_wp2_with fail
  generalize (w.alloc (.cells #[.pointer p1, .pointer p2] 62)).alloc (.cells #[.pointer p3, .pointer p4] 62) = W at *
  refine (CR.out p3 p4 _ R3.out R4.out).mono ?_
  rintro e w1 ⟨z1, z2, rfl, rz1, rz2, x1⟩
  have RZ := Lib.hid (And.intro rz1 rz2)
  have X1 := Lib.hid (X2.out.trans x1)
  have B3 := Lib.hid (x1.at B3.out)
  have R1 := Lib.hid (R1.out.ext x1)
  have R2 := Lib.hid (R2.out.ext x1)
  clear rz1 rz2 x1 c0 c1 c2 c3 B4
  go_wp2_with fail
  refine (CT.out z1 z2 _ RZ.out.1 RZ.out.2).mono ?_
  rintro e w3 ⟨rfl, x3⟩
  have xb := x3.alloc (.cells #[.string goal] 9)
  have TB := Lib.hid (heap_alloc_new w3 (.cells #[.string goal] 9))
  have X3 := Lib.hid (X1.out.trans xb)
  have NE : Hid (w.heap.size ≤ w3.heap.size ∧ w.heap.size < w3.heap.size) := by have := (Array.getElem?_eq_some_iff.1 (x3.at B3.out)).1; exact ⟨by omega, this⟩
  have B3 := Lib.hid (xb.at B3.out)
  have R1 := Lib.hid (R1.out.ext xb)
  have R2 := Lib.hid (R2.out.ext xb)
  clear x3 xb RZ
  go_wp2_with fail
  generalize w3.alloc (.cells #[.string goal] 9) = W3 at *
  go_loopw [9] (fun i wr => ∃ k : Nat, k ≤ n + 1 ∧ i = .int .i64 k ∧ Hid (L goal 0 (n + 1) = L goal k (n + 1 - k)) ∧ Hid (wr.heap[w3.heap.size]? = some (.cells #[.string goal] 9)) ∧ Hid (wr.heap[w.heap.size]? = some (.cells #[.pointer p1, .pointer p2] 62)) ∧ Hid (Rep wr A p1) ∧ Hid (Rep wr B p2) ∧ Hid (Ext w wr)) (fun i _ => n + 1 - (intOf i).toNat)
  case atStart => exact ⟨0, by omega, rfl, rfl, TB.out, B3.out, R1.out, R2.out, X3.out⟩
  case round =>
    obtain ⟨k, hk, rfl, HL, HT, HB, HR1, HR2, HX⟩ := hrel
    by_cases hlt : k ≤ n
    · have h0 : (0 : Int) ≤ k := by omega
      have h1 : (k : Int) ≤ n := by omega
      have xa := (Ext.refl wr).alloc (.cells #[.slice none 0 0] 28)
      have CB0 := Lib.hid (heap_alloc_new wr (.cells #[.slice none 0 0] 28))
      have LT : Hid (w3.heap.size < wr.heap.size ∧ w.heap.size < wr.heap.size) := ⟨(Array.getElem?_eq_some_iff.1 HT.out).1, (Array.getElem?_eq_some_iff.1 HB.out).1⟩
      obtain ⟨d0, d1⟩ := cells_of (xa.at HB.out)
      have HT1 := Lib.hid (xa.at HT.out)
      have HB1 := Lib.hid (xa.at HB.out)
      have S1 := Lib.hid (HR1.out.ext xa)
      have S2 := Lib.hid (HR2.out.ext xa)
      have X4 := Lib.hid (HX.out.trans xa)
      have LS : Hid (wr.heap.size < (wr.alloc (.cells #[.slice none 0 0] 28)).heap.size) := by simp [Hid]
      clear xa HT HB HR1 HR2
      go_wp2_with fail
      generalize wr.alloc (.cells #[.slice none 0 0] 28) = W4 at *
      refine (CP.out p1 p2 _ S1.out S2.out).mono ?_
      rintro e w5 ⟨z1, z2, rfl, rz1, rz2, x5⟩
      have I5 : IG w3.heap.size wr.heap.size w.heap.size goal none w5 := ⟨⟨x5.at HT1.out, _, x5.at CB0.out, rfl⟩, (X4.out.trans x5).size⟩
      have WC := Lib.hid (words_calls (find_isCb w5.heap.size wr.heap.size w3.heap.size w.heap.size goal (Nat.lt_of_lt_of_le LS.out x5.size) (by have := LT.out; have := LS.out; have := x5.size; omega) (by have := LT.out; omega)) k [] p0 none (.slice none 0 0) z1 z2 w5 (by omega) (by simp; omega) hs.out.1 (by have := hs.out; omega) rfl I5 (Own.nil _ _ _) (Nat.le_refl _) rz1 rz2)
      rw [RW.out] at WC
      have PK : Hid (∀ w6, Tch wr.heap.size none w5 w6 → w6.heap[w3.heap.size]? = some (.cells #[.string goal] 9) ∧ w6.heap[w.heap.size]? = some (.cells #[.pointer p1, .pointer p2] 62) ∧ Rep w6 A p1 ∧ Rep w6 B p2 ∧ Ext w w6) := by
        intro w6 t6
        have nn : NotNode w5 wr.heap.size := ⟨_, _, _, x5.at CB0.out, by decide⟩
        have := LT.out
        have := HX.out.size
        exact ⟨t6.at_ (x5.at HT1.out) (by omega) (by simp), t6.at_ (x5.at HB1.out) (by omega) (by simp), (S1.out.ext x5).tch t6 nn (fun k hk => by cases hk), (S2.out.ext x5).tch t6 nn (fun k hk => by cases hk), t6.toExt (X4.out.trans x5) (by omega) (fun i hi => by cases hi)⟩
      have ST : Hid (L goal k (n + 1 - k) = match (allW k).find? (fitsA goal p0) with | some w => some w | none => L goal (k + 1) (n - k)) := by
        show _ = _
        rw [show n + 1 - k = n - k + 1 by omega]
        exact HST.out goal k (n - k)
      clear d0 d1 x5 I5 rz1 rz2
      cases hf : (allW k).find? (fitsA goal p0) with
      | some xs =>
        rw [hf] at WC ST
        have EV : Hid (L goal 0 (n + 1) = some xs) := by show _ = _; rw [HL.out, ST.out]
        simp only [List.nil_append] at WC
        go_wp2_with fail
        refine WC.out.mono ?_
        rintro e w6 ⟨rfl, i6, _, t6⟩
        have P6 := Lib.hid (PK.out w6 t6)
        obtain ⟨⟨_, v6, h6, f6⟩, _⟩ := i6
        obtain ⟨e0, e1⟩ := one_facts h6
        have F6 := Lib.hid f6
        clear t6 h6 f6 hf
        go_wp2_with fail
        go_ret2
        rw [EV.out]
        exact ⟨_, rfl, F6.out, P6.out.2.2.2.2⟩
      | none =>
        rw [hf] at WC ST
        have EV : Hid (L goal 0 (n + 1) = L goal (k + 1) (n + 1 - (k + 1))) := by show _ = _; rw [HL.out, ST.out, show n + 1 - (k + 1) = n - k by omega]
        go_wp2_with fail
        refine WC.out.mono ?_
        rintro e w6 ⟨rfl, _, _, t6⟩
        have P6 := Lib.hid (PK.out w6 t6)
        clear t6 hf
        go_wp2_with fail
        exact ⟨⟨k + 1, by omega, by go_num, EV.out, P6.out.1, P6.out.2.1, P6.out.2.2.1, P6.out.2.2.2.1, P6.out.2.2.2.2⟩, by simp [intOf]; omega⟩
    · have h1 : ¬ (k : Int) ≤ n := by omega
      have EV : Hid (L goal 0 (n + 1) = none) := by show _ = _; rw [HL.out, show n + 1 - k = 0 by omega]; exact H0.out _ _
      go_wp2_with fail
      go_ret2
      rw [EV.out]
      exact ⟨_, rfl, rfl, HX.out⟩
end Go.Proofs.YtijnadjgmmednaaGreat.N
namespace Go.Proofs.YtijnadjgmmednaaGreat.N
def ld : Tr → Nat
  | .leaf => 0
  | .node l _ => ld l + 1
def rdp : Tr → Nat
  | .leaf => 0
  | .node _ r => rdp r + 1
theorem ld_grown (h : Nat → Tr) : ∀ (T : Tr) (k : Nat), ld (T.grown h k) = ld T + ld (h k)
  | .leaf, k => by simp [Tr.grown, ld]
  | .node l r, k => by simp only [Tr.grown, ld]; rw [ld_grown h l k]; omega
theorem rdp_grown (h : Nat → Tr) : ∀ (T : Tr) (k : Nat), rdp (T.grown h k) = rdp T + rdp (h (k + T.carets))
  | .leaf, k => by simp [Tr.grown, rdp, Tr.carets]
  | .node l r, k => by
    simp only [Tr.grown, rdp, Tr.carets]
    rw [rdp_grown h r (k + (l.carets + 1)), show k + (l.carets + 1) + r.carets = k + (1 + l.carets + r.carets) by omega]
    omega
theorem ld_fill (T : Tr) (L : List Tr) : ld (fill T L) = ld T + ld (L.getD 0 .leaf) := ld_grown _ T 0
theorem rdp_fill (T : Tr) (L : List Tr) : rdp (fill T L) = rdp T + rdp (L.getD T.carets .leaf) := by
  have := rdp_grown (fun i => L.getD i .leaf) T 0
  rw [Nat.zero_add] at this
  exact this
theorem ld_parts {t w : Tr} (h : Part t w) : ld w = ld t + ld ((partsT t w).getD 0 .leaf) := by
  have := ld_fill t (partsT t w)
  rwa [fill_parts t w h] at this
theorem rdp_parts {t w : Tr} (h : Part t w) : rdp w = rdp t + rdp ((partsT t w).getD t.carets .leaf) := by
  have := rdp_fill t (partsT t w)
  rwa [fill_parts t w h] at this
theorem ld_without : ∀ (T : Tr) (k : Nat), k ∈ expo T 0 → ld T = ld (without T k) + (if k = 0 then 1 else 0)
  | .leaf, k, h => by simp [expo] at h
  | .node l r, k, h => by
    by_cases hl : l = .leaf ∧ r = .leaf
    · obtain ⟨rfl, rfl⟩ := hl
      simp [expo] at h
      subst h
      rfl
    · rw [without_node hl]
      rcases mem_expo_node hl h with ⟨h1, h2⟩ | ⟨h1, h2⟩
      · rw [if_neg (by omega)]
        have := ld_without l k h2
        simp only [ld]
        omega
      · rw [if_pos h1]
        simp only [ld]
        rw [if_neg (by omega)]
theorem rdp_without : ∀ (T : Tr) (k : Nat), k ∈ expo T 0 → rdp T = rdp (without T k) + (if k + 1 = T.carets then 1 else 0)
  | .leaf, k, h => by simp [expo] at h
  | .node l r, k, h => by
    by_cases hl : l = .leaf ∧ r = .leaf
    · obtain ⟨rfl, rfl⟩ := hl
      simp [expo] at h
      subst h
      rfl
    · rw [without_node hl]
      rcases mem_expo_node hl h with ⟨h1, h2⟩ | ⟨h1, h2⟩
      · rw [if_neg (by omega)]
        have := expo_range l 0 k h2
        have hc : (Tr.node l r).carets = 1 + l.carets + r.carets := rfl
        rw [if_neg (show ¬ k + 1 = (Tr.node l r).carets by omega)]
        rfl
      · rw [if_pos h1]
        have := rdp_without r (k - (l.carets + 1)) h2
        have hc : (Tr.node l r).carets = 1 + l.carets + r.carets := rfl
        simp only [rdp]
        by_cases e : k - (l.carets + 1) + 1 = r.carets
        · rw [if_pos e] at this
          rw [if_pos (show k + 1 = (Tr.node l r).carets by omega)]
          omega
        · rw [if_neg e] at this
          rw [if_neg (show ¬ k + 1 = (Tr.node l r).carets by omega)]
          omega
def az (p : Tr × Tr) : Int := (ld p.1 : Int) - ld p.2
def bz (p : Tr × Tr) : Int := (rdp p.1 : Int) - rdp p.2
theorem ends_without {A B : Tr} (hc : A.carets = B.carets) {k : Nat} (h : k ∈ bothT A B) : az (without A k, without B k) = az (A, B) ∧ bz (without A k, without B k) = bz (A, B) := by
  obtain ⟨h1, h2⟩ := mem_both h
  have a1 := ld_without A k h1
  have a2 := ld_without B k h2
  have b1 := rdp_without A k h1
  have b2 := rdp_without B k h2
  rw [hc] at b1
  unfold az bz
  simp only
  constructor
  · split at a1 <;> split at a2 <;> omega
  · split at b1 <;> split at b2 <;> omega
theorem ends_redF : ∀ (n : Nat) (p : Tr × Tr), Bal p → az (redF n p) = az p ∧ bz (redF n p) = bz p
  | 0, p, _ => ⟨rfl, rfl⟩
  | n + 1, p, hb => by
    simp only [redF]
    split
    · exact ⟨rfl, rfl⟩
    · rename_i k l h
      have hk : k ∈ bothT p.1 p.2 := by rw [h]; exact List.mem_cons_self ..
      obtain ⟨h1, h2⟩ := mem_both hk
      have c1 := without_carets _ _ h1
      have c2 := without_carets _ _ h2
      have hb' : Bal (without p.1 k, without p.2 k) := by unfold Bal at *; simp only; omega
      obtain ⟨i1, i2⟩ := ends_redF n _ hb'
      obtain ⟨e1, e2⟩ := ends_without hb hk
      exact ⟨i1.trans e1, i2.trans e2⟩
theorem ends_red {p : Tr × Tr} (h : Bal p) : az (red p) = az p ∧ bz (red p) = bz p := ends_redF _ p h
theorem ends_mul {p q : Tr × Tr} (hp : Bal p) (hq : Bal q) : az (mul p q) = az p + az q ∧ bz (mul p q) = bz p + bz q := by
  have hb : Bal (mul0 p q) := by
    obtain ⟨h1, h2⟩ := mul0_carets hp hq
    unfold Bal; omega
  obtain ⟨h1, h2⟩ := ends_red hb
  have l1 := ld_parts (part_join_l p.2 q.1)
  have l2 := ld_parts (part_join_r p.2 q.1)
  have r1 := rdp_parts (part_join_l p.2 q.1)
  have r2 := rdp_parts (part_join_r p.2 q.1)
  unfold mul
  rw [h1, h2]
  unfold az bz mul0
  simp only
  rw [ld_fill, ld_fill, rdp_fill, rdp_fill]
  unfold Bal at hp hq
  rw [hp, ← hq]
  omega
theorem ends_inv (p : Tr × Tr) : az (inv p) = - az p ∧ bz (inv p) = - bz p := by unfold az bz inv; simp only; omega
theorem ends_conj {p q : Tr × Tr} (hp : Bal p) (hq : Bal q) : az (conj p q) = az p ∧ bz (conj p q) = bz p := by
  obtain ⟨h1, h2⟩ := ends_mul (hq.inv.mul hp) hq
  obtain ⟨h3, h4⟩ := ends_mul hq.inv hp
  obtain ⟨h5, h6⟩ := ends_inv q
  unfold conj
  rw [show ((q.2, q.1) : Tr × Tr) = inv q from rfl, h1, h2, h3, h4, h5, h6]
  omega
def sumE : List Nat → Int
  | [] => 0
  | a :: l => a + sumE l
theorem sumE_app : ∀ (a b : List Nat), sumE (a ++ b) = sumE a + sumE b
  | [], b => by simp [sumE]
  | x :: a, b => by simp only [List.cons_append, sumE]; rw [sumE_app a b]; omega
theorem climb_head : ∀ (T : Tr) (k : Nat), ∃ l, climb T k = (k + ld T) :: l
  | .leaf, k => ⟨[], rfl⟩
  | .node l r, k => by
    obtain ⟨x, hx⟩ := climb_head l (k + 1)
    exact ⟨x ++ climb r 0, by simp only [climb, ld]; rw [hx, List.cons_append, show k + 1 + ld l = k + (ld l + 1) by omega]⟩
theorem climb_sum : ∀ (T : Tr) (k : Nat), sumE (climb T k) = k + T.carets
  | .leaf, k => by simp [climb, sumE, Tr.carets]
  | .node l r, k => by simp only [climb, Tr.carets]; rw [sumE_app, climb_sum l, climb_sum r]; omega
theorem exp_sum : ∀ T : Tr, sumE (expT T) = T.carets - rdp T
  | .leaf => by simp [expT, sumE, Tr.carets, rdp]
  | .node l r => by simp only [expT, Tr.carets, rdp]; rw [sumE_app, climb_sum, exp_sum r]; omega
theorem exp_head (T : Tr) : ∃ l, expT T = (ld T - 1) :: l := by
  cases T with
  | leaf => exact ⟨[], rfl⟩
  | node l r =>
    obtain ⟨x, hx⟩ := climb_head l 0
    exact ⟨x ++ expT r, by simp only [expT, ld]; rw [hx, List.cons_append, show 0 + ld l = ld l + 1 - 1 by omega]⟩
def addI (a b : Int × Int) : Int × Int := (a.1 + b.1, a.2 + b.2)
theorem sumS_add (s : Int × Int) (x : Int) : sumS s x = addI s (sumS (0, 0) x) := by unfold sumS addI; split <;> simp
theorem addI_assoc (a b c : Int × Int) : addI (addI a b) c = addI a (addI b c) := by unfold addI; simp only [Prod.mk.injEq]; omega
theorem addI_zero (a : Int × Int) : addI a (0, 0) = a := by unfold addI; simp
theorem foldl_sumS : ∀ (ws : List Int) (s : Int × Int), ws.foldl sumS s = addI s (ws.foldl sumS (0, 0))
  | [], s => (addI_zero s).symm
  | x :: l, s => by
    rw [List.foldl_cons, List.foldl_cons, foldl_sumS l (sumS s x), foldl_sumS l (sumS (0, 0) x), sumS_add s x, addI_assoc]
theorem sumW_app (a b : List Int) : sumW (a ++ b) = addI (sumW a) (sumW b) := by
  unfold sumW
  rw [List.foldl_append, foldl_sumS]
theorem sumW_neg : ∀ ws : List Int, (∀ x ∈ ws, x ≠ 0) → sumW (ws.map fun x => -x) = (-(sumW ws).1, -(sumW ws).2)
  | [], _ => by simp [sumW]
  | x :: l, h => by
    have hx := h x (List.mem_cons_self ..)
    have ih := sumW_neg l fun y hy => h y (List.mem_cons_of_mem _ hy)
    have e : ∀ (y : Int) (m : List Int), sumW (y :: m) = addI (sumS (0, 0) y) (sumW m) := fun y m => foldl_sumS m _
    rw [List.map_cons, e, e, ih]
    unfold addI sumS sg
    by_cases h1 : x.natAbs = 1
    · rw [if_pos h1, if_pos (by omega)]
      by_cases h2 : x < 0
      · rw [if_pos h2, if_neg (by omega)]; simp only [Prod.mk.injEq]; omega
      · rw [if_neg h2, if_pos (by omega)]; simp only [Prod.mk.injEq]; omega
    · rw [if_neg h1, if_neg (by omega)]
      by_cases h2 : x < 0
      · rw [if_pos h2, if_neg (by omega)]; simp only [Prod.mk.injEq]; omega
      · rw [if_neg h2, if_pos (by omega)]; simp only [Prod.mk.injEq]; omega
theorem addI_comm (a b : Int × Int) : addI a b = addI b a := by unfold addI; simp only [Prod.mk.injEq]; omega
theorem sumW_reverse : ∀ ws : List Int, sumW ws.reverse = sumW ws
  | [] => rfl
  | x :: l => by
    rw [List.reverse_cons, sumW_app, sumW_reverse l, addI_comm]
    exact (foldl_sumS l _).symm
theorem sumW_rep (n k : Nat) : sumW (List.replicate n ((k : Int) + 1)) = if k = 0 then ((n : Int), 0) else (0, (n : Int)) := by
  induction n with
  | zero => simp [sumW]
  | succ n ih =>
    rw [List.replicate_succ, show sumW (((k : Int) + 1) :: List.replicate n ((k : Int) + 1)) = addI (sumS (0, 0) ((k : Int) + 1)) (sumW (List.replicate n ((k : Int) + 1))) from foldl_sumS (List.replicate n ((k : Int) + 1)) (sumS (0, 0) ((k : Int) + 1)), ih]
    unfold addI sumS sg
    by_cases h : k = 0
    · rw [if_pos h, if_pos (by omega), if_neg (by omega)]; simp only [Prod.mk.injEq]; simp [h]; omega
    · rw [if_neg h, if_neg (by omega), if_neg (by omega)]; simp only [Prod.mk.injEq]; simp [h]; omega
theorem sumE_take (xs : List Nat) (k : Nat) : sumE (xs.take (k + 1)) = sumE (xs.take k) + (xs.getD k 0 : Nat) := by
  rw [List.take_add_one, sumE_app, List.getD_eq_getElem?_getD]
  cases xs[k]? <;> simp [sumE]
theorem sumW_wordT (x : Nat) (xs : List Nat) : ∀ k, sumW (wordT (x :: xs) (k + 1)) = ((x : Int), sumE (xs.take k))
  | 0 => by simp only [wordT, List.nil_append]; rw [sumW_rep]; simp [sumE]
  | k + 1 => by
    rw [wordT, sumW_app, sumW_wordT x xs k, sumW_rep, if_neg (by omega), sumE_take]
    unfold addI
    simp
theorem sumW_wordL (T : Tr) : sumW (wordL (expT T)) = (((ld T - 1 : Nat) : Int), (T.carets : Int) - rdp T - ((ld T - 1 : Nat) : Int)) := by
  obtain ⟨l, hl⟩ := exp_head T
  have hs := exp_sum T
  unfold wordL
  rw [hl] at hs ⊢
  rw [List.length_cons, sumW_wordT, List.take_length]
  have hs' : ((ld T - 1 : Nat) : Int) + sumE l = (T.carets : Int) - rdp T := hs
  refine Prod.ext rfl ?_
  show sumE l = _
  omega
theorem wordL_nz (xs : List Nat) : ∀ x ∈ wordL xs, x ≠ 0 := fun x hx => by
  have := (wordT_mem xs _ x hx).1; omega
theorem sums_ends {p : Tr × Tr} (hp : Bal p) : sumW (wordP p) = (az p, - bz p - az p) := by
  have hz : ∀ A B : Tr, A.carets = B.carets → ((ld A - 1 : Nat) : Int) - ((ld B - 1 : Nat) : Int) = (ld A : Int) - ld B := by
    intro A B h
    cases A with
    | leaf =>
      cases B with
      | leaf => rfl
      | node l r => simp only [Tr.carets] at h; omega
    | node a b =>
      cases B with
      | leaf => simp only [Tr.carets] at h; omega
      | node l r => simp only [ld]; omega
  have hc : p.1.carets = p.2.carets := hp
  have e := hz p.1 p.2 hc
  unfold wordP invL
  rw [sumW_app, sumW_reverse, sumW_neg _ (wordL_nz _), sumW_wordL, sumW_wordL]
  unfold addI az bz
  simp only [Prod.mk.injEq]
  omega
theorem sums_red {p : Tr × Tr} (hp : Bal p) : sumW (wordP (red p)) = (az p, - bz p - az p) := by
  rw [sums_ends hp.red, (ends_red hp).1, (ends_red hp).2]
end Go.Proofs.YtijnadjgmmednaaGreat.N
