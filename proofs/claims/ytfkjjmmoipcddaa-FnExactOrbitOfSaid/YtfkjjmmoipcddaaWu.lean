import Derived.Test.YtfkjjmmoipcddaaBa
import Derived.Test.YtfkjjmmoipcddaaPu
import Derived.Test.YtfkjjmmoipcddaaSl
import Derived.Test.YtfkjjmmoipcddaaProg
import Derived.Test.YtfkjjmmoipcddaaWl
import Derived.Test.YtfkjjmmoipcddaaWt
import Derived.Deep.LoopGhost
import Derived.Deep.QuietTactic
import Derived.BigQuiet
import Derived.Deep.OwnRows
import Derived.KernelRfl
/- Tables of numbers: the laws' own helpers over them: copies, likeness, marks. -/
namespace Go.Proofs.Ytfkjjmmoipcddaa.N
open Go.RowKit
set_option linter.unusedVariables false
set_option linter.unusedSimpArgs false

theorem Own.made (w : World) (n : Nat) (z : Value) (e : TypeId) (base : Nat) (hb : base ≤ w.heap.size) (hm : n ≤ maxLen) : Own (w.alloc (.cells (madeCells #[z] n) e)) base e (.slice (some ⟨w.heap.size, 0, none⟩) n n) (List.replicate n z) := by
  refine ⟨by simp, .inr ⟨w.heap.size, n, madeCells #[z] n, by simp, hb, heap_alloc_new w _, by simp, hm, by rw [size_madeCells]; simp, ?_⟩⟩
  simp only [List.length_replicate, Nat.mul_one]
  rw [List.take_of_length_le (by rw [Array.length_toList, size_madeCells]; exact Nat.le_refl _)]
  apply List.ext_getElem
  · simp [madeCells]
  · intro i h1 h2; simp [madeCells, Nat.mod_one]
theorem copy_step (bs zs : List Value) (k : Nat) (u : Value) (ha : bs.length = k) (hk : k < zs.length) : (bs ++ zs.drop k).set k u = (bs ++ [u]) ++ zs.drop (k + 1) := by
  rw [List.set_append_right _ _ (by omega), ha, Nat.sub_self, List.drop_eq_getElem_cons hk, List.set_cons_zero]
  simp
theorem int_info : (Try.prog.info? 3).map (fun i => (i.zero, i.size, i.bytes)) = some (some (.int .i64 0), 1, 8) := by kernel_rfl
set_option maxHeartbeats 1600000 in
set_option maxRecDepth 100000 in
theorem toIntS_calls (xs : List Int) (hn : xs.length ≤ 1048576) (v : Value) (w : World) (hv : Reads w v (ints xs)) :
    Calls Try.prog 41 #[v] w fun e w' => ∃ u, e = .returned u ∧ Own w' w.heap.size 3 u (ints xs) ∧ Ext w w' := by
  obtain ⟨A, c, rfl, _, rd⟩ := hv
  rw [ints_length] at *
  have RD := Lib.hid rd
  clear rd
  have hmk := run_make_row' (P := Try.prog) 54 3 (.int .i64 0) 8 Try.underlying54 int_info rfl .i64 .i64 xs.length (by omega) (by omega)
  have O0 := Lib.hid (Own.made w xs.length (.int .i64 0) 3 w.heap.size (Nat.le_refl _) (by unfold maxLen; omega))
  have X0 := Lib.hid ((Ext.refl w).alloc (.cells (madeCells #[.int .i64 0] xs.length) 3))
  go_enter Try.func41, Try.ntmps41
  go_wp2_with fail
  go_loopw [4] (fun i wr => ∃ k : Nat, k ≤ xs.length ∧ i = .int .i64 k ∧ Hid (Own wr w.heap.size 3 (.slice (some ⟨w.heap.size, 0, none⟩) xs.length xs.length) (ints (xs.take k) ++ (List.replicate xs.length (Value.int .i64 0)).drop k)) ∧ Hid (Ext w wr)) (fun i _ => xs.length - (intOf i).toNat)
  case atStart => exact ⟨0, Nat.zero_le _, rfl, O0.out, X0.out⟩
  case round =>
    obtain ⟨k, hk, rfl, HO, HX⟩ := hrel
    have LE : (ints (xs.take k) ++ (List.replicate xs.length (Value.int .i64 0)).drop k).length = xs.length := by simp [ints]; omega
    by_cases hlt : k < xs.length
    · obtain ⟨ad, rfl, ca⟩ := RD.out (by omega)
      have c1 := HX.out.cell (ca k _ (ints_get xs k hlt))
      have h0 : (0 : Int) ≤ k := by omega
      have h1 : (k : Int) < xs.length := by omega
      have ST := Lib.hid (copy_step (ints (xs.take k)) (List.replicate xs.length (Value.int .i64 0)) k (.int .i64 xs[k]) (by simp [ints]; omega) (by simpa using hlt))
      have TK : Hid (ints (xs.take k) ++ [.int .i64 xs[k]] = ints (xs.take (k + 1))) := by show _ = _; rw [List.take_add_one, List.getElem?_eq_getElem hlt]; simp only [ints, List.map_append, Option.toList, List.map_cons, List.map_nil]
      have HO2 := HO.out
      unfold Own at HO2
      rw [LE] at HO2
      have f1 : wr.frozen? ⟨w.heap.size, k, none⟩ = false := World.ownsRow.frozenAt HO2 k
      have c2 : wr.cell? ⟨w.heap.size, k, none⟩ = some (.int .i64 0) := by
        rw [World.ownsRow.cellAt HO2 k (by omega), List.getElem?_append_right (by simp [ints]; omega)]
        simp only [ints, List.length_map, List.length_take, Nat.min_eq_left hk, Nat.sub_self, List.getElem?_drop, List.getElem?_replicate]
        rw [if_pos (by omega)]
      obtain ⟨O3, g3⟩ := World.ownsRow.stored HO2 k (.int .i64 xs[k])
      rw [ST.out, TK.out] at O3
      have O4 : Hid (Own (wr.setCell ⟨w.heap.size, k, none⟩ (.int .i64 xs[k])) w.heap.size 3 (.slice (some ⟨w.heap.size, 0, none⟩) xs.length xs.length) (ints (xs.take (k + 1)) ++ (List.replicate xs.length (Value.int .i64 0)).drop (k + 1))) := by
        show World.ownsRow _ _ _ _ _ _ _
        rw [show (ints (xs.take (k + 1)) ++ (List.replicate xs.length (Value.int .i64 0)).drop (k + 1)).length = xs.length from by simp [ints]; omega]
        exact O3
      have X4 := Lib.hid (HX.out.grown g3 (fun j hj => by cases hj; exact Nat.le_refl _))
      clear ca O3 g3 HO2 ST TK
      generalize xs[k] = x at *
      go_wp2_with fail
      exact ⟨⟨k + 1, by omega, by go_num, O4.out, X4.out⟩, by simp [intOf]; omega⟩
    · have h1 : (xs.length : Int) ≤ k := by omega
      obtain rfl : k = xs.length := by omega
      have O4 : Hid (Own wr w.heap.size 3 (.slice (some ⟨w.heap.size, 0, none⟩) xs.length xs.length) (ints xs)) := by
        have := HO.out; rw [List.drop_eq_nil_of_le (by simp), List.append_nil, List.take_length] at this; exact this
      go_wp2_with fail
      go_ret
      exact ⟨_, rfl, O4.out, HX.out⟩

theorem row_info : (Try.prog.info? 54).map (fun i => (i.zero, i.size, i.bytes)) = some (some (.slice none 0 0), 1, 24) := by kernel_rfl
set_option maxHeartbeats 1600000 in
set_option maxRecDepth 100000 in
theorem toIntSS_calls (xss : List (List Int)) (hn : xss.length + total xss ≤ 1048576) (v : Value) (w : World) (hv : ReadsM w v xss) :
    Calls Try.prog 29 #[v] w fun e w' => ∃ u, e = .returned u ∧ OwnM w' w.heap.size u xss ∧ Ext w w' := by
  obtain ⟨A, c, rfl, _, rd⟩ := hv.open
  have RD := Lib.hid rd
  have HT := Lib.hid hn
  have hnl : xss.length ≤ 1048576 := by omega
  clear rd hv hn
  have hmk := run_make_row' (P := Try.prog) 39 54 (.slice none 0 0) 24 Try.underlying39 row_info rfl .i64 .i64 xss.length (by omega) (by omega)
  have O0 := Lib.hid (Own.made w xss.length (.slice none 0 0) 54 w.heap.size (Nat.le_refl _) (by unfold maxLen; omega))
  have X0 := Lib.hid ((Ext.refl w).alloc (.cells (madeCells #[.slice none 0 0] xss.length) 54))
  have S0 : Hid (w.heap.size + 1 ≤ (w.alloc (.cells (madeCells #[.slice none 0 0] xss.length) 54)).heap.size) := by show _ ≤ _; simp
  go_enter Try.func29, Try.ntmps29
  go_wp2_with fail
  go_loopw [4] (fun i wr => ∃ (k : Nat) (us : List Value), k ≤ xss.length ∧ us.length = k ∧ i = .int .i64 k ∧ Hid (Own wr w.heap.size 54 (.slice (some ⟨w.heap.size, 0, none⟩) xss.length xss.length) (us ++ (List.replicate xss.length (Value.slice none 0 0)).drop k)) ∧ Hid (Rows wr (w.heap.size + 1) us (xss.take k)) ∧ Hid (Ext w wr) ∧ Hid (w.heap.size + 1 ≤ wr.heap.size)) (fun i _ => xss.length - (intOf i).toNat)
  case atStart => exact ⟨0, [], Nat.zero_le _, rfl, rfl, O0.out, Rows.nil _ _, X0.out, S0.out⟩
  case round =>
    obtain ⟨k, us, hk, hus, rfl, HO, HR, HX, HS⟩ := hrel
    have LE : (us ++ (List.replicate xss.length (Value.slice none 0 0)).drop k).length = xss.length := by simp; omega
    by_cases hlt : k < xss.length
    · obtain ⟨xs, hx⟩ : ∃ xs, xss[k]? = some xs := ⟨_, List.getElem?_eq_getElem hlt⟩
      obtain ⟨ad, B, d, rfl, c1, rd⟩ := RD.out k xs hx
      have c1 := HX.out.cell c1
      have h0 : (0 : Int) ≤ k := by omega
      have h1 : (k : Int) < xss.length := by omega
      have hxl : xs.length ≤ 1048576 := by
        have h1 := total_take xss k xs hx
        have h2 : total xss = total (xss.take (k + 1)) + total (xss.drop (k + 1)) := by unfold total; rw [← List.sum_append, ← List.map_append, List.take_append_drop]
        have := HT.out
        omega
      have CC := Lib.hid (fun W hW => toIntS_calls xs hxl (.slice B xs.length d) W (rd.ext hW))
      have TK : Hid (xss.take (k + 1) = xss.take k ++ [xs]) := by show _ = _; rw [List.take_add_one, hx]; rfl
      clear rd hx
      go_wp2_with fail
      refine (CC.out wr HX.out).mono ?_
      rintro e w2 ⟨u, rfl, ou, x2⟩
      have HO2 := HO.out.ext x2
      unfold Own at HO2
      rw [LE] at HO2
      have f1 : w2.frozen? ⟨w.heap.size, k, none⟩ = false := World.ownsRow.frozenAt HO2 k
      have c2 : w2.cell? ⟨w.heap.size, k, none⟩ = some (.slice none 0 0) := by
        rw [World.ownsRow.cellAt HO2 k (by omega), List.getElem?_append_right (by omega)]
        simp only [hus, Nat.sub_self, List.getElem?_drop, List.getElem?_replicate]
        rw [if_pos (by omega)]
      obtain ⟨O3, g3⟩ := World.ownsRow.stored HO2 k u
      rw [copy_step us (List.replicate xss.length (Value.slice none 0 0)) k u hus (by simpa using hlt)] at O3
      have O4 : Hid (Own (w2.setCell ⟨w.heap.size, k, none⟩ u) w.heap.size 54 (.slice (some ⟨w.heap.size, 0, none⟩) xss.length xss.length) ((us ++ [u]) ++ (List.replicate xss.length (Value.slice none 0 0)).drop (k + 1))) := by
        show World.ownsRow _ _ _ _ _ _ _
        rw [show ((us ++ [u]) ++ (List.replicate xss.length (Value.slice none 0 0)).drop (k + 1)).length = xss.length from by simp; omega]
        exact O3
      have R4 : Hid (Rows (w2.setCell ⟨w.heap.size, k, none⟩ u) (w.heap.size + 1) (us ++ [u]) (xss.take (k + 1))) := by
        show Rows _ _ _ _
        rw [TK.out]
        exact ((HR.out.ext x2).snoc ou HS.out HR.out.lt).far g3 (by omega)
      have X4 := Lib.hid ((HX.out.trans x2).grown g3 (fun j hj => by cases hj; exact Nat.le_refl _))
      have S4 : Hid (w.heap.size + 1 ≤ (w2.setCell ⟨w.heap.size, k, none⟩ u).heap.size) := Nat.le_trans HS.out (Nat.le_trans x2.size g3.size)
      have oc := fun (h : ∀ u ∈ ints xs, u.oneCell' = true) => h
      obtain ⟨A2, c2', rfl, _, _⟩ := ou.reads
      rw [ints_length] at *
      clear O3 g3 HO2 TK ou x2 HO HR
      go_wp2_with fail
      exact ⟨⟨k + 1, us ++ [Value.slice A2 xs.length c2'], by omega, by simp [hus], by go_num, O4.out, R4.out, X4.out, S4.out⟩, by simp [intOf]; omega⟩
    · have h1 : (xss.length : Int) ≤ k := by omega
      obtain rfl : k = xss.length := by omega
      have O4 : Hid (OwnM wr w.heap.size (.slice (some ⟨w.heap.size, 0, none⟩) xss.length xss.length) xss) := by
        have := HO.out; rw [List.drop_eq_nil_of_le (by simp), List.append_nil] at this
        have h2 := HR.out; rw [List.take_length] at h2
        exact ⟨us, this, h2.mono (by omega)⟩
      go_wp2_with fail
      go_ret
      exact ⟨_, rfl, O4.out, HX.out⟩

set_option maxHeartbeats 1600000 in
set_option maxRecDepth 100000 in
theorem eqIntSS_calls (xss : List (List Int)) (hn : xss.length + total xss ≤ 1048576) (va vb : Value) (w : World) (ha : ReadsM w va xss) (hb : ReadsM w vb xss) :
    Calls Try.prog 31 #[va, vb] w fun e w' => e = .returned (.bool true) ∧ Ext w w' := by
  obtain ⟨A, c, rfl, _, ra⟩ := ha.open
  obtain ⟨B, d, rfl, _, rb⟩ := hb.open
  have RA := Lib.hid ra
  have RB := Lib.hid rb
  have HT := Lib.hid hn
  have hnl : xss.length ≤ 1048576 := by omega
  clear ra rb ha hb hn
  go_enter Try.func31, Try.ntmps31
  go_wp2_with fail
  go_loopw [5] (fun i wr => ∃ k : Nat, k ≤ xss.length ∧ i = .int .i64 k ∧ Hid (Ext w wr)) (fun i _ => xss.length - (intOf i).toNat)
  case atStart => exact ⟨0, Nat.zero_le _, rfl, Ext.refl _⟩
  case round =>
    obtain ⟨k, hk, rfl, HX⟩ := hrel
    by_cases hlt : k < xss.length
    · obtain ⟨xs, hx⟩ : ∃ xs, xss[k]? = some xs := ⟨_, List.getElem?_eq_getElem hlt⟩
      obtain ⟨ad, A', d1, rfl, a1, ra⟩ := RA.out k xs hx
      obtain ⟨bd, B', d2, rfl, b1, rb⟩ := RB.out k xs hx
      have a1 := HX.out.cell a1
      have b1 := HX.out.cell b1
      have h0 : (0 : Int) ≤ k := by omega
      have h1 : (k : Int) < xss.length := by omega
      have hxl : xs.length < 1000000000 := by
        have h1 := total_take xss k xs hx
        have h2 : total xss = total (xss.take (k + 1)) + total (xss.drop (k + 1)) := by unfold total; rw [← List.sum_append, ← List.map_append, List.take_append_drop]
        have := HT.out
        omega
      have CC := Lib.hid (fun W hW => eqIntS_calls xs hxl (.slice A' xs.length d1) (.slice B' xs.length d2) W (ra.ext hW) (rb.ext hW))
      clear ra rb hx
      go_wp2_with fail
      go_region_held3 (fun w' => w'.cell? (ad.add k) = some (.slice A' xs.length d1) ∧ w'.cell? (bd.add k) = some (.slice B' xs.length d2) ∧ Ext w w')
        (first | exact ⟨HX.out.drew.cell (by assumption), HX.out.drew.cell (by assumption), HX.out.drew⟩ | exact ⟨a1, b1, HX.out.drew⟩ | exact ⟨a1, b1, HX.out.drewN _⟩ | fail)
        (first | (go_at_call 43; refine (CC.out _ HX.out.drew).mono ?_; rintro e w2 ⟨rfl, n2, rfl⟩) | fail)
      go_wp2_with fail
      exact ⟨⟨k + 1, by omega, by go_num, HX.out.drewN _⟩, by simp [intOf]; omega⟩
    · have h1 : (xss.length : Int) ≤ k := by omega
      go_wp2_with fail
      go_ret
      exact ⟨rfl, HX.out⟩

