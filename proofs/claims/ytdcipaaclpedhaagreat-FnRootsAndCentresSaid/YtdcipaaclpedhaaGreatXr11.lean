import Derived.DataElems
import Derived.Test.YtdcipaaclpedhaaGreatXr9
/- A part of the proof: lemmas that later parts use. -/
set_option linter.unusedVariables false
set_option linter.unusedSimpArgs false
namespace Go.Proofs.YtdcipaaclpedhaaGreat.N
open Go.RowKit
def RC (w : World) (v : Value) (xs : List Value) : Prop := Reads w v xs ∧ ∃ A c, v = .slice A xs.length c ∧ xs.length ≤ c
theorem RC.ext {w w' : World} {v : Value} {xs : List Value} (h : RC w v xs) (hx : Ext w w') : RC w' v xs := ⟨h.1.ext hx, h.2⟩
theorem Own.rc {w : World} {base : Nat} {e : TypeId} {v : Value} {xs : List Value} (h : Own w base e v xs) : RC w v xs := by
  refine ⟨h.reads, ?_⟩
  rcases h.2 with ⟨rfl, h0⟩ | ⟨g, cap, cur, rfl, hb, hh, h1, h2⟩
  · exact ⟨none, 0, by rw [h0], by omega⟩
  · exact ⟨_, cap, rfl, h1⟩
theorem RC.open {w : World} {v : Value} {ys : List Nat} (h : RC w v (nats ys)) (hp : 0 < ys.length) : ∃ ad c, v = .slice (some ad) ys.length c ∧ ys.length ≤ c ∧ w.cell? (ad.add 0) = some (.int .i64 (ys.getD 0 0 : Nat)) ∧
    (∀ k, k ≤ ys.length → RC w (.slice (some (ad.add k)) (ys.length - k) (c - k)) (nats (ys.drop k))) ∧ ∀ k, k ≤ ys.length → RC w (.slice (some ad) k c) (nats (ys.take k)) := by
  obtain ⟨⟨A, c, e, _, hc⟩, A', c', rfl, hle⟩ := h
  rw [nats_length] at *
  injection e with e1 _ e3
  subst e1 e3
  obtain ⟨ad, rfl, hcell⟩ := hc hp
  have at_ : ∀ j, j < ys.length → w.cell? (ad.add j) = some (.int .i64 (ys.getD j 0 : Nat)) := fun j hj => by
    rw [hcell j _ (nats_get ys j hj), List.getD_eq_getElem?_getD, List.getElem?_eq_getElem hj]; rfl
  refine ⟨ad, c', rfl, hle, at_ 0 hp, fun k hk => ?_, fun k hk => ?_⟩
  · have e1 : (nats (ys.drop k)).length = ys.length - k := by rw [nats_length, List.length_drop]
    refine ⟨⟨some (ad.add k), c' - k, by rw [e1], (fun h => by cases h), fun _ => ⟨_, rfl, fun j u hu => ?_⟩⟩, _, _, by rw [e1], by rw [e1]; omega⟩
    have hj : j < ys.length - k := by rw [← e1]; exact (List.getElem?_eq_some_iff.1 hu).1
    rw [Go.Addr.add_add, at_ (k + j) (by omega), ← hu, nats_get _ _ (by rw [List.length_drop]; exact hj), List.getElem_drop, List.getD_eq_getElem?_getD, List.getElem?_eq_getElem (by omega)]
    rfl
  · have e1 : (nats (ys.take k)).length = k := by rw [nats_length, List.length_take]; omega
    refine ⟨⟨some ad, c', by rw [e1], (fun h => by cases h), fun _ => ⟨_, rfl, fun j u hu => ?_⟩⟩, _, _, by rw [e1], by rw [e1]; omega⟩
    have hj : j < k := by rw [← e1]; exact (List.getElem?_eq_some_iff.1 hu).1
    rw [at_ j (by omega), ← hu, nats_get _ _ (by rw [List.length_take]; omega), List.getElem_take, List.getD_eq_getElem?_getD, List.getElem?_eq_getElem (by omega)]
    rfl
end Go.Proofs.YtdcipaaclpedhaaGreat.N
