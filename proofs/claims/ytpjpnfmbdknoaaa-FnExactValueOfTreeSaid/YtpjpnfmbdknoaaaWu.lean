import Derived.Test.YtpjpnfmbdknoaaaBa
import Derived.Test.YtpjpnfmbdknoaaaPu
import Derived.Test.YtpjpnfmbdknoaaaSl
import Derived.Test.YtpjpnfmbdknoaaaProg
import Derived.Test.YtpjpnfmbdknoaaaWl
import Derived.Test.YtpjpnfmbdknoaaaWt
import Derived.Deep.LoopGhost
import Derived.Deep.QuietTactic
import Derived.BigQuiet
import Derived.Deep.OwnRows
import Derived.KernelRfl
/- Tables of numbers: the laws' own helpers over them: copies, likeness, marks. -/
namespace Go.Proofs.Ytpjpnfmbdknoaaa.N
open Go.RowKit
set_option linter.unusedVariables false
set_option linter.unusedSimpArgs false

theorem Own.made (w : World) (n : Nat) (z : Value) (e : TypeId) (base : Nat) (hb : base ≤ w.heap.size) (hm : n ≤ maxLen) : Own (w.alloc (.cells (madeCells #[z] n) e)) base e (.slice (some ⟨w.heap.size, 0, none⟩) n n) (List.replicate n z) := by
  refine ⟨by simp, .inr ⟨w.heap.size, n, madeCells #[z] n, by simp, hb, heap_alloc_new w _, by simp, hm, by rw [size_madeCells]; simp, ?_⟩⟩
  simp only [List.length_replicate, Nat.mul_one]
  rw [List.take_of_length_le (by rw [Array.length_toList, size_madeCells]; exact Nat.le_refl _)]
  apply List.ext_getElem
  · simp [madeCells]
  · intro i h1 h2; simp [madeCells, Nat.mod_one]
theorem copy_step (bs zs : List Value) (k : Nat) (u : Value) (ha : bs.length = k) (hk : k < zs.length) : (bs ++ zs.drop k).set k u = (bs ++ [u]) ++ zs.drop (k + 1) := by
  rw [List.set_append_right _ _ (by omega), ha, Nat.sub_self, List.drop_eq_getElem_cons hk, List.set_cons_zero]
  simp
theorem int_info : (Try.prog.info? 3).map (fun i => (i.zero, i.size, i.bytes)) = some (some (.int .i64 0), 1, 8) := by kernel_rfl
set_option maxHeartbeats 1600000 in
set_option maxRecDepth 100000 in
theorem toIntS_calls (xs : List Int) (hn : xs.length ≤ 1048576) (v : Value) (w : World) (hv : Reads w v (ints xs)) :
    Calls Try.prog 43 #[v] w fun e w' => ∃ u, e = .returned u ∧ Own w' w.heap.size 3 u (ints xs) ∧ Ext w w' := by
  obtain ⟨A, c, rfl, _, rd⟩ := hv
  rw [ints_length] at *
  have RD := Lib.hid rd
  clear rd
  have hmk := run_make_row' (P := Try.prog) 40 3 (.int .i64 0) 8 Try.underlying40 int_info rfl .i64 .i64 xs.length (by omega) (by omega)
  have O0 := Lib.hid (Own.made w xs.length (.int .i64 0) 3 w.heap.size (Nat.le_refl _) (by unfold maxLen; omega))
  have X0 := Lib.hid ((Ext.refl w).alloc (.cells (madeCells #[.int .i64 0] xs.length) 3))
  go_enter Try.func43, Try.ntmps43
  go_wp2_with fail
  go_loopw [4] (fun i wr => ∃ k : Nat, k ≤ xs.length ∧ i = .int .i64 k ∧ Hid (Own wr w.heap.size 3 (.slice (some ⟨w.heap.size, 0, none⟩) xs.length xs.length) (ints (xs.take k) ++ (List.replicate xs.length (Value.int .i64 0)).drop k)) ∧ Hid (Ext w wr)) (fun i _ => xs.length - (intOf i).toNat)
  case atStart => exact ⟨0, Nat.zero_le _, rfl, O0.out, X0.out⟩
  case round =>
    obtain ⟨k, hk, rfl, HO, HX⟩ := hrel
    have LE : (ints (xs.take k) ++ (List.replicate xs.length (Value.int .i64 0)).drop k).length = xs.length := by simp [ints]; omega
    by_cases hlt : k < xs.length
    · obtain ⟨ad, rfl, ca⟩ := RD.out (by omega)
      have c1 := HX.out.cell (ca k _ (ints_get xs k hlt))
      have h0 : (0 : Int) ≤ k := by omega
      have h1 : (k : Int) < xs.length := by omega
      have ST := Lib.hid (copy_step (ints (xs.take k)) (List.replicate xs.length (Value.int .i64 0)) k (.int .i64 xs[k]) (by simp [ints]; omega) (by simpa using hlt))
      have TK : Hid (ints (xs.take k) ++ [.int .i64 xs[k]] = ints (xs.take (k + 1))) := by show _ = _; rw [List.take_add_one, List.getElem?_eq_getElem hlt]; simp only [ints, List.map_append, Option.toList, List.map_cons, List.map_nil]
      have HO2 := HO.out
      unfold Own at HO2
      rw [LE] at HO2
      have f1 : wr.frozen? ⟨w.heap.size, k, none⟩ = false := World.ownsRow.frozenAt HO2 k
      have c2 : wr.cell? ⟨w.heap.size, k, none⟩ = some (.int .i64 0) := by
        rw [World.ownsRow.cellAt HO2 k (by omega), List.getElem?_append_right (by simp [ints]; omega)]
        simp only [ints, List.length_map, List.length_take, Nat.min_eq_left hk, Nat.sub_self, List.getElem?_drop, List.getElem?_replicate]
        rw [if_pos (by omega)]
      obtain ⟨O3, g3⟩ := World.ownsRow.stored HO2 k (.int .i64 xs[k])
      rw [ST.out, TK.out] at O3
      have O4 : Hid (Own (wr.setCell ⟨w.heap.size, k, none⟩ (.int .i64 xs[k])) w.heap.size 3 (.slice (some ⟨w.heap.size, 0, none⟩) xs.length xs.length) (ints (xs.take (k + 1)) ++ (List.replicate xs.length (Value.int .i64 0)).drop (k + 1))) := by
        show World.ownsRow _ _ _ _ _ _ _
        rw [show (ints (xs.take (k + 1)) ++ (List.replicate xs.length (Value.int .i64 0)).drop (k + 1)).length = xs.length from by simp [ints]; omega]
        exact O3
      have X4 := Lib.hid (HX.out.grown g3 (fun j hj => by cases hj; exact Nat.le_refl _))
      clear ca O3 g3 HO2 ST TK
      generalize xs[k] = x at *
      go_wp2_with fail
      exact ⟨⟨k + 1, by omega, by go_num, O4.out, X4.out⟩, by simp [intOf]; omega⟩
    · have h1 : (xs.length : Int) ≤ k := by omega
      obtain rfl : k = xs.length := by omega
      have O4 : Hid (Own wr w.heap.size 3 (.slice (some ⟨w.heap.size, 0, none⟩) xs.length xs.length) (ints xs)) := by
        have := HO.out; rw [List.drop_eq_nil_of_le (by simp), List.append_nil, List.take_length] at this; exact this
      go_wp2_with fail
      go_ret
      exact ⟨_, rfl, O4.out, HX.out⟩

theorem row_info : (Try.prog.info? 40).map (fun i => (i.zero, i.size, i.bytes)) = some (some (.slice none 0 0), 1, 24) := by kernel_rfl
set_option maxHeartbeats 1600000 in
set_option maxRecDepth 100000 in
theorem toIntSS_calls (xss : List (List Int)) (hn : xss.length + total xss ≤ 1048576) (v : Value) (w : World) (hv : ReadsM w v xss) :
    Calls Try.prog 24 #[v] w fun e w' => ∃ u, e = .returned u ∧ OwnM w' w.heap.size u xss ∧ Ext w w' := by
  obtain ⟨A, c, rfl, _, rd⟩ := hv.open
  have RD := Lib.hid rd
  have HT := Lib.hid hn
  have hnl : xss.length ≤ 1048576 := by omega
  clear rd hv hn
  have hmk := run_make_row' (P := Try.prog) 33 40 (.slice none 0 0) 24 Try.underlying33 row_info rfl .i64 .i64 xss.length (by omega) (by omega)
  have O0 := Lib.hid (Own.made w xss.length (.slice none 0 0) 40 w.heap.size (Nat.le_refl _) (by unfold maxLen; omega))
  have X0 := Lib.hid ((Ext.refl w).alloc (.cells (madeCells #[.slice none 0 0] xss.length) 40))
  have S0 : Hid (w.heap.size + 1 ≤ (w.alloc (.cells (madeCells #[.slice none 0 0] xss.length) 40)).heap.size) := by show _ ≤ _; simp
  go_enter Try.func24, Try.ntmps24
  go_wp2_with fail
  go_loopw [4] (fun i wr => ∃ (k : Nat) (us : List Value), k ≤ xss.length ∧ us.length = k ∧ i = .int .i64 k ∧ Hid (Own wr w.heap.size 40 (.slice (some ⟨w.heap.size, 0, none⟩) xss.length xss.length) (us ++ (List.replicate xss.length (Value.slice none 0 0)).drop k)) ∧ Hid (Rows wr (w.heap.size + 1) us (xss.take k)) ∧ Hid (Ext w wr) ∧ Hid (w.heap.size + 1 ≤ wr.heap.size)) (fun i _ => xss.length - (intOf i).toNat)
  case atStart => exact ⟨0, [], Nat.zero_le _, rfl, rfl, O0.out, Rows.nil _ _, X0.out, S0.out⟩
  case round =>
    obtain ⟨k, us, hk, hus, rfl, HO, HR, HX, HS⟩ := hrel
    have LE : (us ++ (List.replicate xss.length (Value.slice none 0 0)).drop k).length = xss.length := by simp; omega
    by_cases hlt : k < xss.length
    · obtain ⟨xs, hx⟩ : ∃ xs, xss[k]? = some xs := ⟨_, List.getElem?_eq_getElem hlt⟩
      obtain ⟨ad, B, d, rfl, c1, rd⟩ := RD.out k xs hx
      have c1 := HX.out.cell c1
      have h0 : (0 : Int) ≤ k := by omega
      have h1 : (k : Int) < xss.length := by omega
      have hxl : xs.length ≤ 1048576 := by
        have h1 := total_take xss k xs hx
        have h2 : total xss = total (xss.take (k + 1)) + total (xss.drop (k + 1)) := by unfold total; rw [← List.sum_append, ← List.map_append, List.take_append_drop]
        have := HT.out
        omega
      have CC := Lib.hid (fun W hW => toIntS_calls xs hxl (.slice B xs.length d) W (rd.ext hW))
      have TK : Hid (xss.take (k + 1) = xss.take k ++ [xs]) := by show _ = _; rw [List.take_add_one, hx]; rfl
      clear rd hx
      go_wp2_with fail
      refine (CC.out wr HX.out).mono ?_
      rintro e w2 ⟨u, rfl, ou, x2⟩
      have HO2 := HO.out.ext x2
      unfold Own at HO2
      rw [LE] at HO2
      have f1 : w2.frozen? ⟨w.heap.size, k, none⟩ = false := World.ownsRow.frozenAt HO2 k
      have c2 : w2.cell? ⟨w.heap.size, k, none⟩ = some (.slice none 0 0) := by
        rw [World.ownsRow.cellAt HO2 k (by omega), List.getElem?_append_right (by omega)]
        simp only [hus, Nat.sub_self, List.getElem?_drop, List.getElem?_replicate]
        rw [if_pos (by omega)]
      obtain ⟨O3, g3⟩ := World.ownsRow.stored HO2 k u
      rw [copy_step us (List.replicate xss.length (Value.slice none 0 0)) k u hus (by simpa using hlt)] at O3
      have O4 : Hid (Own (w2.setCell ⟨w.heap.size, k, none⟩ u) w.heap.size 40 (.slice (some ⟨w.heap.size, 0, none⟩) xss.length xss.length) ((us ++ [u]) ++ (List.replicate xss.length (Value.slice none 0 0)).drop (k + 1))) := by
        show World.ownsRow _ _ _ _ _ _ _
        rw [show ((us ++ [u]) ++ (List.replicate xss.length (Value.slice none 0 0)).drop (k + 1)).length = xss.length from by simp; omega]
        exact O3
      have R4 : Hid (Rows (w2.setCell ⟨w.heap.size, k, none⟩ u) (w.heap.size + 1) (us ++ [u]) (xss.take (k + 1))) := by
        show Rows _ _ _ _
        rw [TK.out]
        exact ((HR.out.ext x2).snoc ou HS.out HR.out.lt).far g3 (by omega)
      have X4 := Lib.hid ((HX.out.trans x2).grown g3 (fun j hj => by cases hj; exact Nat.le_refl _))
      have S4 : Hid (w.heap.size + 1 ≤ (w2.setCell ⟨w.heap.size, k, none⟩ u).heap.size) := Nat.le_trans HS.out (Nat.le_trans x2.size g3.size)
      have oc := fun (h : ∀ u ∈ ints xs, u.oneCell' = true) => h
      obtain ⟨A2, c2', rfl, _, _⟩ := ou.reads
      rw [ints_length] at *
      clear O3 g3 HO2 TK ou x2 HO HR
      go_wp2_with fail
      exact ⟨⟨k + 1, us ++ [Value.slice A2 xs.length c2'], by omega, by simp [hus], by go_num, O4.out, R4.out, X4.out, S4.out⟩, by simp [intOf]; omega⟩
    · have h1 : (xss.length : Int) ≤ k := by omega
      obtain rfl : k = xss.length := by omega
      have O4 : Hid (OwnM wr w.heap.size (.slice (some ⟨w.heap.size, 0, none⟩) xss.length xss.length) xss) := by
        have := HO.out; rw [List.drop_eq_nil_of_le (by simp), List.append_nil] at this
        have h2 := HR.out; rw [List.take_length] at h2
        exact ⟨us, this, h2.mono (by omega)⟩
      go_wp2_with fail
      go_ret
      exact ⟨_, rfl, O4.out, HX.out⟩

set_option maxHeartbeats 1600000 in
set_option maxRecDepth 100000 in
theorem eqIntSS_calls (xss : List (List Int)) (hn : xss.length + total xss ≤ 1048576) (va vb : Value) (w : World) (ha : ReadsM w va xss) (hb : ReadsM w vb xss) :
    Calls Try.prog 26 #[va, vb] w fun e w' => e = .returned (.bool true) ∧ Ext w w' := by
  obtain ⟨A, c, rfl, _, ra⟩ := ha.open
  obtain ⟨B, d, rfl, _, rb⟩ := hb.open
  have RA := Lib.hid ra
  have RB := Lib.hid rb
  have HT := Lib.hid hn
  have hnl : xss.length ≤ 1048576 := by omega
  clear ra rb ha hb hn
  go_enter Try.func26, Try.ntmps26
  go_wp2_with fail
  go_loopw [5] (fun i wr => ∃ k : Nat, k ≤ xss.length ∧ i = .int .i64 k ∧ Hid (Ext w wr)) (fun i _ => xss.length - (intOf i).toNat)
  case atStart => exact ⟨0, Nat.zero_le _, rfl, Ext.refl _⟩
  case round =>
    obtain ⟨k, hk, rfl, HX⟩ := hrel
    by_cases hlt : k < xss.length
    · obtain ⟨xs, hx⟩ : ∃ xs, xss[k]? = some xs := ⟨_, List.getElem?_eq_getElem hlt⟩
      obtain ⟨ad, A', d1, rfl, a1, ra⟩ := RA.out k xs hx
      obtain ⟨bd, B', d2, rfl, b1, rb⟩ := RB.out k xs hx
      have a1 := HX.out.cell a1
      have b1 := HX.out.cell b1
      have h0 : (0 : Int) ≤ k := by omega
      have h1 : (k : Int) < xss.length := by omega
      have hxl : xs.length < 1000000000 := by
        have h1 := total_take xss k xs hx
        have h2 : total xss = total (xss.take (k + 1)) + total (xss.drop (k + 1)) := by unfold total; rw [← List.sum_append, ← List.map_append, List.take_append_drop]
        have := HT.out
        omega
      have CC := Lib.hid (fun W hW => eqIntS_calls xs hxl (.slice A' xs.length d1) (.slice B' xs.length d2) W (ra.ext hW) (rb.ext hW))
      clear ra rb hx
      go_wp2_with fail
      go_region_held3 (fun w' => w'.cell? (ad.add k) = some (.slice A' xs.length d1) ∧ w'.cell? (bd.add k) = some (.slice B' xs.length d2) ∧ Ext w w')
        (first | exact ⟨HX.out.drew.cell (by assumption), HX.out.drew.cell (by assumption), HX.out.drew⟩ | exact ⟨a1, b1, HX.out.drew⟩ | exact ⟨a1, b1, HX.out.drewN _⟩ | fail)
        (first | (go_at_call 29; refine (CC.out _ HX.out.drew).mono ?_; rintro e w2 ⟨rfl, n2, rfl⟩) | fail)
      go_wp2_with fail
      exact ⟨⟨k + 1, by omega, by go_num, HX.out.drewN _⟩, by simp [intOf]; omega⟩
    · have h1 : (xss.length : Int) ≤ k := by omega
      go_wp2_with fail
      go_ret
      exact ⟨rfl, HX.out⟩

set_option maxHeartbeats 1600000 in
set_option maxRecDepth 100000 in
theorem markIntSS_calls (base : Nat) (us : List Value) (xss : List (List Int)) (m : Nat) (hm : 1 ≤ m) (hn : m + total xss < 100000000) (hl : xss.length ≤ 1048576) (v : Value) (w : World) (ho : Own w base 40 v us) (hr : Rows w base us xss) :
    Calls Try.prog 30 #[v, .int .i64 m] w fun e w' => e = .returned (.int .i64 ((m + total xss : Nat) : Int)) ∧ Mid us w w' := by
  have HO := Lib.hid ho
  have HR := Lib.hid hr
  have HN := Lib.hid hn
  obtain ⟨A, c, rfl, _, _⟩ := ho.reads
  have hlen : us.length = xss.length := hr.1
  rw [hlen] at HO ⊢
  clear ho hr hn
  go_enter Try.func30, Try.ntmps30
  go_wp2_with fail
  go_loopw [5, 1] (fun i q wr => ∃ k : Nat, k ≤ xss.length ∧ i = .int .i64 k ∧ q = .int .i64 ((m + total (xss.take k) : Nat) : Int) ∧ Hid (Own wr base 40 (.slice A xss.length c) us) ∧ Hid (Mid us w wr) ∧ Hid (∀ (r : Nat) (xs : List Int), k ≤ r → xss[r]? = some xs → ∃ u, us[r]? = some u ∧ Own wr base 3 u (ints xs))) (fun i _ _ => xss.length - (intOf i).toNat)
  case atStart => exact ⟨0, Nat.zero_le _, rfl, by simp [total], HO.out, Mid.refl _ _, fun r xs _ e => HR.out.2.1 r xs e⟩
  case round =>
    obtain ⟨k, hk, rfl, rfl, KO, KM, KR⟩ := hrel
    by_cases hlt : k < xss.length
    · obtain ⟨xs, hx⟩ : ∃ xs, xss[k]? = some xs := ⟨_, List.getElem?_eq_getElem hlt⟩
      obtain ⟨u, hu, ou⟩ := KR.out k xs (Nat.le_refl _) hx
      obtain ⟨A2, c2, e2, _, h2⟩ := KO.out.reads
      have h0 : (0 : Int) ≤ k := by omega
      have h1 : (k : Int) < xss.length := by omega
      obtain ⟨ad, ea, ca⟩ := h2 (by omega)
      have c1 := ca k u hu
      rw [hlen] at e2
      injection e2 with e3 e4 e5
      subst e3 e5
      subst ea
      have TT := total_take xss k xs hx
      have TB : total (xss.take (k + 1)) ≤ total xss := by
        have h2 : total xss = total (xss.take (k + 1)) + total (xss.drop (k + 1)) := by unfold total; rw [← List.sum_append, ← List.map_append, List.take_append_drop]
        omega
      have CC := Lib.hid (markIntS_calls base (ints xs) (m + total (xss.take k)) (by omega) (by rw [ints_length]; have := HN.out; omega) u wr ou)
      rw [show m + total (xss.take k) + (ints xs).length = m + total (xss.take (k + 1)) from by rw [ints_length]; omega] at CC
      have UB := Lib.hid (ou.typed)
      have HU := Lib.hid (And.intro hu (List.mem_of_getElem? hu))
      obtain ⟨A3, c3, rfl, _, _⟩ := ou.reads
      rw [ints_length] at *
      clear ou hx ca h2 TT TB
      obtain ⟨q, hq⟩ : ∃ q, q = m + total (xss.take k) := ⟨_, rfl⟩
      obtain ⟨q2, hq2⟩ : ∃ q, q = m + total (xss.take (k + 1)) := ⟨_, rfl⟩
      rw [← hq, ← hq2] at CC
      rw [← hq]
      have Q2 := Lib.hid hq2
      clear hq hq2
      go_wp2_with fail
      refine CC.out.mono ?_
      rintro e w2 ⟨rfl, _, hg⟩
      have K1 : Hid (Own w2 base 40 (.slice (some ad) xss.length c) us) := KO.out.far hg (fun j hj hj2 => by
        obtain ⟨cs, fr, e1⟩ := UB.out j hj
        obtain ⟨cs', fr', e2⟩ := KO.out.typed j hj2
        rw [e1] at e2; cases e2)
      have K2 := Lib.hid (KM.out.step hg HU.out.2)
      have K3 : Hid (∀ (r : Nat) (xs : List Int), k + 1 ≤ r → xss[r]? = some xs → ∃ u, us[r]? = some u ∧ Own w2 base 3 u (ints xs)) := by
        intro r ys hr e
        obtain ⟨u', hu', o'⟩ := KR.out r ys (by omega) e
        exact ⟨u', hu', o'.far hg (fun j hj => HR.out.2.2 k r _ u' (by omega) HU.out.1 hu' j hj)⟩
      clear hg
      go_wp2_with fail
      exact ⟨⟨k + 1, by omega, by go_num, by rw [← Q2.out], K1.out, K2.out, K3.out⟩, by simp [intOf]; omega⟩
    · have h1 : (xss.length : Int) ≤ k := by omega
      have E : Hid (xss.take k = xss) := List.take_of_length_le (by omega)
      go_wp2_with fail
      go_ret
      exact ⟨by rw [E.out]; rfl, KM.out⟩
end Go.Proofs.Ytpjpnfmbdknoaaa.N
