import Derived.BigRegion
import Derived.Test.YtijnadjgmmednaaXg8
/- A part of the proof: lemmas that later parts use. -/
set_option linter.unusedVariables false
set_option linter.unusedSimpArgs false
namespace Go.Proofs.Ytijnadjgmmednaa.N
open Go.RowKit
theorem Own.take {w : World} {base : Nat} {e : TypeId} {A : Option Addr} {n c : Nat} {xs : List Value} (h : Own w base e (.slice A n c) xs) (k : Nat) (hk : k ≤ n) (hA : A ≠ none) : Own w base e (.slice A k c) (xs.take k) := by
  have hl : xs.length = n := by
    obtain ⟨A', c', e', _⟩ := h.reads
    injection e' with _ e2 _; exact e2.symm
  rcases h.2 with ⟨e1, _⟩ | ⟨g, cap, cur, e1, h1, h2, h3, h4, h5, h6⟩
  · injection e1 with e1 _ _; exact absurd e1 hA
  · injection e1 with e1 e2 e3
    subst e1 e3
    refine ⟨by simp [hl], .inr ⟨g, c, cur, by rw [List.length_take, hl, Nat.min_eq_left hk], h1, h2, by rw [List.length_take, hl]; omega, h4, h5, ?_⟩⟩
    have hle : k ≤ xs.length := by omega
    rw [List.length_take, Nat.min_eq_left hle, Nat.mul_one, ← h6, List.take_take, Nat.mul_one, Nat.min_eq_left hle]
set_option maxHeartbeats 6400000 in
set_option maxRecDepth 1000000 in
theorem reverse_calls (base : Nat) (ps : List (Option Addr)) (hl : ps.length < 1000000) (v : Value) (w : World) (ho : Own w base 80 v (ptrs ps)) :
    Calls Try.prog 97 #[v] w fun e w' => e = .returned (.tuple #[]) ∧ Own w' base 80 v (ptrs ps.reverse) ∧ w.grownBy w' v.ownBlock := by
  rcases Nat.eq_zero_or_pos ps.length with hz | hz
  · obtain rfl := List.eq_nil_of_length_eq_zero hz
    obtain ⟨A, c, rfl, _, _⟩ := ho.reads
    have HO := Lib.hid ho
    clear ho
    rw [show (ptrs []).length = 0 from rfl] at *
    go_enter Try.func97, Try.ntmps97
    go_wp2_with fail
    go_loopw [2, 3] (fun i j wr => i = .int .i64 0 ∧ j = .int .i64 (-1) ∧ wr = w) (fun i _ _ => 0)
    case atStart => exact ⟨rfl, rfl, rfl⟩
    case round =>
      obtain ⟨rfl, rfl, rfl⟩ := hrel
      go_wp2_with fail
      go_end0
      exact ⟨rfl, HO.out, grownBy_refl _ _⟩
  · obtain ⟨g, c, rfl, hg, hgl⟩ := World.ownsRow.form ho (by rw [ptrs_length]; exact hz)
    have HO := Lib.hid ho
    clear ho
    rw [ptrs_length] at *
    go_enter Try.func97, Try.ntmps97
    go_wp2_with fail
    go_loopw [2, 3] (fun i j wr => ∃ (k l : Nat) (qs : List (Option Addr)), k + l + 1 = ps.length ∧ i = .int .i64 k ∧ j = .int .i64 l ∧ Hid (Rev ps k qs) ∧ Hid (Own wr base 80 (.slice (some ⟨g, 0, none⟩) ps.length c) (ptrs qs)) ∧ Hid (w.grownBy wr (some g))) (fun i _ _ => ps.length - (intOf i).toNat)
    case atStart => exact ⟨0, ps.length - 1, ps, by omega, rfl, by go_num, Rev.zero _, HO.out, grownBy_refl _ _⟩
    case round =>
      obtain ⟨k, l, qs, hkl, rfl, rfl, HR, HOW, HG⟩ := hrel
      by_cases hlt : k < l
      · have h0 : (0 : Int) ≤ k := by omega
        have h1 : (k : Int) < l := by omega
        have h2 : (l : Int) < ps.length := by omega
        have h3 : (k : Int) < ps.length := by omega
        have h4 : (0 : Int) ≤ l := by omega
        have hq : qs.length = ps.length := HR.out.1
        have HO2 := HOW.out
        unfold Own at HO2
        rw [ptrs_length, hq] at HO2
        have f1 : wr.frozen? ⟨g, k, none⟩ = false := World.ownsRow.frozenAt HO2 k
        have f2 : wr.frozen? ⟨g, l, none⟩ = false := World.ownsRow.frozenAt HO2 l
        have c1 : wr.cell? ⟨g, k, none⟩ = some (.pointer (qs[k]'(by omega))) := by
          rw [World.ownsRow.cellAt HO2 k (by omega), ptrs_get qs k (by omega)]
        have c2 : wr.cell? ⟨g, l, none⟩ = some (.pointer (qs[l]'(by omega))) := by
          rw [World.ownsRow.cellAt HO2 l (by omega), ptrs_get qs l (by omega)]
        have RS := Lib.hid (HR.out.step (k := k) (by omega) (List.getElem?_eq_getElem (show k < qs.length by omega)) (show qs[ps.length - 1 - k]? = some (qs[l]'(by omega)) by rw [show ps.length - 1 - k = l by omega]; exact List.getElem?_eq_getElem _))
        rw [show ps.length - 1 - k = l by omega] at RS
        have HO3 := Lib.hid HO2
        generalize qs[k]'(by omega) = x at *
        generalize qs[l]'(by omega) = y at *
        have hne : ¬ k = l := by omega
        clear HO2 HR
        go_wp2_with fail
        go_region
        obtain ⟨O3, g3⟩ := World.ownsRow.stored HO3.out k (.pointer y)
        obtain ⟨O4, g4⟩ := World.ownsRow.stored O3 l (.pointer x)
        rw [show ((ptrs qs).set k (.pointer y)).set l (.pointer x) = ptrs ((qs.set k y).set l x) from by simp [ptrs, List.map_set]] at O4
        have O5 : Hid (Own ((wr.setCell ⟨g, k, none⟩ (.pointer y)).setCell ⟨g, l, none⟩ (.pointer x)).drew base 80 (.slice (some ⟨g, 0, none⟩) ps.length c) (ptrs ((qs.set k y).set l x))) := by
          show World.ownsRow _ _ _ _ _ _ _
          rw [ptrs_length, List.length_set, List.length_set, hq]
          exact row_ext O4 (Ext.refl _).drew
        have G5 : Hid (w.grownBy ((wr.setCell ⟨g, k, none⟩ (.pointer y)).setCell ⟨g, l, none⟩ (.pointer x)).drew (some g)) := ((HG.out.trans g3).trans g4).trans ((Ext.refl _).drew.grownBy _)
        clear O3 O4 g3 g4 c1 c2 f1 f2
        generalize ((wr.setCell ⟨g, k, none⟩ (.pointer y)).setCell ⟨g, l, none⟩ (.pointer x)).drew = w5 at *
        go_wp2_with fail
        exact ⟨⟨k + 1, l - 1, (qs.set k y).set l x, by omega, by go_num, by go_num, RS.out, O5.out, G5.out⟩, by simp [intOf]; omega⟩
      · have h1 : ¬ (k : Int) < l := by omega
        have RD : Hid (qs = ps.reverse) := HR.out.done (by omega)
        go_wp2_with fail
        go_end0
        exact ⟨rfl, by rw [← RD.out]; exact HOW.out, HG.out⟩
end Go.Proofs.Ytijnadjgmmednaa.N
