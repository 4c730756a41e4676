import Derived.Test.YtijnadjgmmednaaXd28
import Derived.Test.YtijnadjgmmednaaXd31
/- A part of the proof: lemmas that later parts use. -/
set_option linter.unusedVariables false
set_option linter.unusedSimpArgs false
namespace Go.Proofs.Ytijnadjgmmednaa.PA
open Go.RowKit Go.Proofs.YtijnadjgmmednaaW.PrintWords Go.Proofs.YtijnadjgmmednaaW.PrintLast
theorem oct_of' {l : List Int} (h : ∀ x ∈ l, (Lit.int .u8 x).wf = true) : Oct l := fun x hx => by
  have := h x hx
  simp [Lit.wf, IntKind.min, IntKind.max, IntKind.bits, IntKind.signed] at this
  omega
theorem twoTrees_tot {l : List Int} (hl : Oct l) {m : Nat} {a s : Int} (n : Nat) (hn : n ≤ 100) (k : Nat) (hk : 120 < k) (h : Lf (m + 4 * n + 100) a) : ∃ (x y : ByteArray) (a' s' : Int), spec_l1Cur_twoTrees.f k l a s n = some (x, y, a', s') := by
  unfold spec_l1Cur_twoTrees.f
  obtain ⟨b, a1, s1, e1, h1⟩ := one_tot hl (m := m + 4 * n + 98) (a := a) (s := s) 8 (by omega) (by unfold Lf at *; omega)
  rw [e1, Option.bind_some]
  by_cases hb : b = true
  · rw [if_pos hb]
    obtain ⟨t, a2, s2, e2, _, h2⟩ := tree_tot hl (m := m + 2 * n + 50) (a := a1) (s := s1) n hn k hk (by unfold Lf at *; omega)
    obtain ⟨u, a3, s3, e3, _, h3⟩ := tree_tot hl (m := m) (a := a2) (s := s2) n hn k hk (by unfold Lf at *; omega)
    rw [e2, Option.bind_some, e3, Option.bind_some]
    exact ⟨_, _, _, _, rfl⟩
  · rw [if_neg hb, w64 (by omega)]
    obtain ⟨r, a2, s2, e2, r0, r1, h2⟩ := pick_tot hl (m := m + 4 * n + 96) (a := a1) (s := s1) ((n : Int) + 1) (by omega) (by unfold Lf at *; omega)
    have r1 := r1 (by omega)
    obtain ⟨q, rfl⟩ : ∃ q : Nat, r = q := ⟨r.toNat, by omega⟩
    obtain ⟨T, U, a3, s3, e3, _, _, h3⟩ := surePair_tot hl (m := m) (a := a2) (s := s2) q (by omega) k (by omega) (by unfold Lf at *; omega)
    rw [e2, Option.bind_some, e3, Option.bind_some]
    exact ⟨_, _, _, _, rfl⟩
theorem drawCB_ev {l : List Int} (hl : Oct l) : ∃ x y, Ev (fun k => spec_DrawChainBetween.f k l) (x, y) := by
  obtain ⟨x, y, a, s, e⟩ := twoTrees_tot hl (m := 0) (a := 0) (s := 0) 6 (by omega) 121 (by omega) (by unfold Lf; omega)
  refine ⟨x, y, Ev.of (fun k => spec_DrawChainBetween.mono l k) (k := 121) ?_⟩
  show spec_DrawChainBetween.f 121 l = _
  unfold spec_DrawChainBetween.f
  rw [show ((6 : Int)) = ((6 : Nat) : Int) from rfl, e, Option.bind_some]
theorem drawRD_ev {l : List Int} (hl : Oct l) : ∃ x y, Ev (fun k => spec_DrawRotationDistance.f k l) (x, y) := by
  obtain ⟨b, a1, s1, e1, h1⟩ := one_tot hl (m := 200) (a := 0) (s := 0) 10 (by omega) (by unfold Lf; omega)
  by_cases hb : b = true
  · obtain ⟨x, y, a, s, e⟩ := twoTrees_tot hl (m := 0) (a := a1) (s := s1) 6 (by omega) 121 (by omega) (by unfold Lf at *; omega)
    refine ⟨x, y, Ev.of (fun k => spec_DrawRotationDistance.mono l k) (k := 121) ?_⟩
    show spec_DrawRotationDistance.f 121 l = _
    unfold spec_DrawRotationDistance.f
    rw [e1, Option.bind_some, if_pos hb, show ((6 : Int)) = ((6 : Nat) : Int) from rfl, e, Option.bind_some]
  · obtain ⟨x, y, a, s, e⟩ := twoTrees_tot hl (m := 0) (a := a1) (s := s1) 4 (by omega) 121 (by omega) (by unfold Lf at *; omega)
    refine ⟨x, y, Ev.of (fun k => spec_DrawRotationDistance.mono l k) (k := 121) ?_⟩
    show spec_DrawRotationDistance.f 121 l = _
    unfold spec_DrawRotationDistance.f
    rw [e1, Option.bind_some, if_neg hb, show ((4 : Int)) = ((4 : Nat) : Int) from rfl, e, Option.bind_some]
theorem fHas_l0 (a : ByteArray) (l : List ByteArray) (hl : l.length ≤ 1000000000) : ∀ n j : Nat, n + j = l.length → Ev (fun k => laws_fHas.l0 k a l (l.length : Int) (j : Int)) (decide (a ∈ l.drop j))
  | 0, j, h => ⟨1, fun k hk => by
    obtain ⟨k, rfl⟩ : ∃ k', k = k' + 1 := ⟨k - 1, by omega⟩
    show laws_fHas.l0 (k + 1) _ _ _ _ = _
    rw [laws_fHas.l0, if_neg (by omega), List.drop_eq_nil_of_le (by omega)]
    rfl⟩
  | n + 1, j, h => by
    obtain ⟨K, hK⟩ := fHas_l0 a l hl n (j + 1) (by omega)
    have hj : j < l.length := by omega
    refine ⟨K + 1, fun k hk => ?_⟩
    obtain ⟨k, rfl⟩ : ∃ k', k = k' + 1 := ⟨k - 1, by omega⟩
    show laws_fHas.l0 (k + 1) _ _ _ _ = _
    rw [laws_fHas.l0, if_pos (by omega), if_pos (by omega), if_pos (by omega), rdOf_get hj, List.drop_eq_getElem_cons hj]
    by_cases he : l[j].toList = a.toList
    · rw [if_pos he, decide_eq_true]
      rw [toList_inj' he]; exact List.mem_cons_self
    · rw [if_neg he, w64' (by omega)]
      have e1 : laws_fHas.l0 k a l (l.length : Int) ((j + 1 : Nat) : Int) = some (decide (a ∈ l.drop (j + 1))) := hK k (by omega)
      rw [show ((j + 1 : Nat) : Int) = (j : Int) + 1 by omega] at e1
      rw [e1]
      congr 1
      rw [decide_eq_decide, List.mem_cons]
      constructor
      · exact .inr
      · rintro (rfl | h)
        · exact absurd rfl he
        · exact h
theorem fTexts_l0 (l : List ByteArray) (hl : l.length ≤ 1000000000) : ∀ n j : Nat, n + j = l.length → Ev (fun k => laws_fTexts.l0 k l l (l.length : Int) (j : Int)) true
  | 0, j, h => ⟨1, fun k hk => by
    obtain ⟨k, rfl⟩ : ∃ k', k = k' + 1 := ⟨k - 1, by omega⟩
    show laws_fTexts.l0 (k + 1) _ _ _ _ = _
    rw [laws_fTexts.l0, if_neg (by omega)]⟩
  | n + 1, j, h => by
    obtain ⟨K, hK⟩ := fTexts_l0 l hl n (j + 1) (by omega)
    refine ⟨K + 1, fun k hk => ?_⟩
    obtain ⟨k, rfl⟩ : ∃ k', k = k' + 1 := ⟨k - 1, by omega⟩
    show laws_fTexts.l0 (k + 1) _ _ _ _ = _
    rw [laws_fTexts.l0, if_pos (by omega), if_pos (by omega), if_pos (by omega), if_pos (by omega), if_pos rfl, w64' (by omega)]
    have e1 : laws_fTexts.l0 k l l (l.length : Int) ((j + 1 : Nat) : Int) = some true := hK k (by omega)
    rwa [show ((j + 1 : Nat) : Int) = (j : Int) + 1 by omega] at e1
theorem fTexts_ev (l : List ByteArray) (hl : l.length ≤ 1000000000) : Ev (fun k => laws_fTexts.f k l l) true := by
  obtain ⟨K, hK⟩ := fTexts_l0 l hl l.length 0 rfl
  refine ⟨K, fun k hk => ?_⟩
  show laws_fTexts.f k l l = _
  unfold laws_fTexts.f
  rw [if_pos rfl]
  exact hK k hk
theorem rd_j4' (k : Nat) {x y z : ByteArray} {d p q c m s : Int} {l : List ByteArray} (f1 : impl_RotationDistance.f y x = some (d, true)) (f2 : impl_ChainBetween.f x y = some (l, true)) (f3 : impl_CaretsOf.f x = some (c, true)) (f4 : impl_RightComb.f c = some (z, true))
    (f5 : impl_RotationDistance.f x z = some (p, true)) (f6 : impl_RotationDistance.f z y = some (q, true)) (w1 : wrap64 ((l.length : Int) - 1) = m) (h1 : ¬ d > m) (w2 : wrap64 (p + q) = s) (h2 : ¬ d > s) (h3 : (d == 0) = (x.toList == y.toList)) :
    laws_FnRotationDistance.j4 (k + 1) x y d true false = some true := by
  rw [laws_FnRotationDistance.j4, if_neg (by decide), if_pos rfl, f1, Option.bind_some, f2, Option.bind_some, f3, Option.bind_some]
  dsimp only
  rw [f4, Option.bind_some]
  dsimp only
  rw [f5, Option.bind_some, f6, Option.bind_some]
  dsimp only
  rw [if_pos rfl, if_pos rfl, if_pos rfl, if_pos rfl, if_pos rfl, if_pos rfl, if_pos rfl, w1, if_neg h1, w2, if_neg h2, if_neg (by rw [h3]; simp)]
theorem rd_j4 {x y : ByteArray} {d : Int} {ok : Bool} (h : impl_RotationDistance.f x y = some (d, ok)) (k : Nat) : laws_FnRotationDistance.j4 (k + 1) x y d ok false = some true := by
  unfold impl_RotationDistance.f at h
  cases e : N.anyT 5 x y with
  | none =>
    rw [e] at h
    simp only [Option.some.injEq, Prod.mk.injEq] at h
    obtain ⟨rfl, rfl⟩ := h
    rw [laws_FnRotationDistance.j4, if_neg (by decide), if_neg (by decide)]
  | some p =>
    obtain ⟨A, B⟩ := p
    rw [e] at h
    simp only [Option.some.injEq, Prod.mk.injEq] at h
    obtain ⟨rfl, rfl⟩ := h
    obtain ⟨rfl, rfl, h1, h2⟩ := N.anyT_some e
    simp only at h1 h2 ⊢
    have hcc : (N.comb A.carets).carets = A.carets := N.comb_carets _
    have f1 : impl_RotationDistance.f (N.tx B) (N.tx A) = some ((N.distN B A : Int), true) := by unfold impl_RotationDistance.f; rw [N.anyT_yes h1.symm (by omega)]
    have f2 : impl_ChainBetween.f (N.tx A) (N.tx B) = some ((N.bet A B).map N.tx, true) := by unfold impl_ChainBetween.f; rw [N.pairT_yes h1 (by omega)]
    have f3 : impl_CaretsOf.f (N.tx A) = some ((A.carets : Int), true) := by unfold impl_CaretsOf.f; rw [N.parseT_tx, Option.bind_some, if_pos (by omega)]
    have f4 : impl_RightComb.f (A.carets : Int) = some (N.tx (N.comb A.carets), true) := by unfold impl_RightComb.f; rw [if_pos (by omega)]; rfl
    have f5 : impl_RotationDistance.f (N.tx A) (N.tx (N.comb A.carets)) = some ((N.distN A (N.comb A.carets) : Int), true) := by unfold impl_RotationDistance.f; rw [N.anyT_yes hcc.symm (by omega)]
    have f6 : impl_RotationDistance.f (N.tx (N.comb A.carets)) (N.tx B) = some ((N.distN (N.comb A.carets) B : Int), true) := by unfold impl_RotationDistance.f; rw [N.anyT_yes (hcc.trans h1) (by omega)]
    have d0 : N.Dist A B (N.distN A B) := N.distN_dist h1.symm (by omega)
    have d1 : N.Dist B A (N.distN B A) := N.distN_dist h1 (by omega)
    have d2 : N.Dist A (N.comb A.carets) (N.distN A (N.comb A.carets)) := N.distN_dist hcc (by omega)
    have d3 : N.Dist (N.comb A.carets) B (N.distN (N.comb A.carets) B) := N.distN_dist (h1.symm.trans hcc.symm) (by omega)
    have e1 : N.distN B A = N.distN A B := d1.uniq d0.symm
    have b1 := N.bet_dist h1 d0
    have b2 := N.dist_tri d0 d2 d3
    have b3 := N.dist_zero d0
    have b4 := N.dist_bound d0
    have b5 := N.dist_bound d2
    have b6 := N.dist_bound d3
    have c5 := Nat.mul_le_mul (show A.carets ≤ 5 by omega) (show A.carets ≤ 5 by omega)
    have b7 := N.bet_length A B (by omega) (by omega)
    rw [hcc] at b6
    have b8 : 0 < (N.bet A B).length := (List.getElem?_eq_some_iff.1 (N.bet_head A B)).1
    have w0 : (((N.bet A B).map N.tx).length : Int) = ((N.bet A B).length : Int) := by rw [List.length_map]
    rw [e1] at f1
    clear d0 d1 d2 d3 e1
    generalize N.distN A (N.comb A.carets) = u at *
    generalize N.distN (N.comb A.carets) B = v at *
    generalize N.distN A B = d at *
    generalize (N.bet A B).length = m at *
    generalize A.carets * A.carets = q at *
    have b5' : (u : Int) ≤ 1000 := by omega
    have b6' : (v : Int) ≤ 1000 := by omega
    have g1 : ¬ (d : Int) > (m : Int) - 1 := by omega
    have g2 : ¬ (d : Int) > (u : Int) + (v : Int) := by omega
    have w1 : wrap64 ((((N.bet A B).map N.tx).length : Int) - 1) = (m : Int) - 1 := by rw [w0]; exact w64' (by omega)
    have w2 : wrap64 ((u : Int) + (v : Int)) = (u : Int) + (v : Int) := w64' (by omega)
    refine rd_j4' k f1 f2 f3 f4 f5 f6 w1 g1 w2 g2 ?_
    rw [Bool.eq_iff_iff, beq_iff_eq, beq_iff_eq]
    constructor
    · intro h; rw [b3.1 (by omega)]
    · intro h; have := b3.2 (N.tx_inj (toList_inj' h)); omega
theorem rd_j3 {l : List Int} (hl : Oct l) : Ev (fun k => laws_FnRotationDistance.j3 k l) true := by
  obtain ⟨x, y, K1, h1⟩ := drawRD_ev hl
  obtain ⟨v, f1, K2, h2⟩ := specRot_ev x y
  refine ⟨K1 + K2 + 3, fun k hk => ?_⟩
  obtain ⟨k, rfl⟩ : ∃ k', k = k' + 2 := ⟨k - 2, by omega⟩
  have e1 : spec_DrawRotationDistance.f (k + 1) l = some (x, y) := h1 (k + 1) (by omega)
  have e2 : spec_RotationDistance.f (k + 1) x y = some v := h2 (k + 1) (by omega)
  show laws_FnRotationDistance.j3 (k + 1 + 1) l = _
  rw [laws_FnRotationDistance.j3, e1, Option.bind_some]
  simp only []
  rw [f1, Option.bind_some, e2, Option.bind_some, if_neg (by simp)]
  have : (v.1 != v.1) = false := by simp
  rw [this]
  exact rd_j4 f1 k
theorem rd_l0 {l : List Int} (hl : Oct l) {A B : N.Tr} (hc : A.carets = B.carets) (h8 : B.carets ≤ 8) : ∀ (n i : Nat) (fits : Bool) (x y : ByteArray), n + i = (N.bet A B).length → 1 ≤ i →
    (fits = true → ∃ p : N.Tr × N.Tr, x = N.tx p.1 ∧ y = N.tx p.2 ∧ N.Bal p ∧ p.2.carets ≤ 8 ∧ ∀ X, (N.bet A B)[i - 1]? = some X → ∀ s, N.act p s = N.act (A, X) s) →
    Ev (fun k => laws_FnRotationDistance.l0 k l (N.tx A) (N.tx B) ((N.bet A B).map N.tx) fits (i : Int) x y) true := by
  intro n
  obtain ⟨K3, h3⟩ := rd_j3 hl
  have hlen := N.bet_length A B (by omega) (by omega)
  induction n with
  | zero =>
    intro i fits x y h hi hI
    refine ⟨K3 + 1, fun k hk => ?_⟩
    obtain ⟨k, rfl⟩ : ∃ k', k = k' + 1 := ⟨k - 1, by omega⟩
    have e3 : laws_FnRotationDistance.j3 k l = some true := h3 k (by omega)
    show laws_FnRotationDistance.l0 (k + 1) _ _ _ _ _ _ _ _ = _
    rw [laws_FnRotationDistance.l0, if_neg (by rw [List.length_map]; omega)]
    cases fits with
    | false => rw [if_neg (by decide)]; exact e3
    | true =>
      obtain ⟨p, rfl, rfl, hb, hp8, ha⟩ := hI rfl
      have hlast := N.bet_last hc
      rw [List.getLast?_eq_getElem?, show (N.bet A B).length - 1 = i - 1 by omega] at hlast
      have e4 : laws_fSameMap.f (N.tx p.1) (N.tx p.2) (N.tx A) (N.tx B) = some true := by
        unfold laws_fSameMap.f impl_AreSamePairs.f
        rw [N.pairT_yes hb hp8, N.pairT_yes hc h8]
        simp only [Option.bind_some]
        rw [if_pos trivial, N.red_ext hb (show N.Bal (A, B) from hc) (ha B hlast)]
        simp
      rw [if_pos rfl, e4, Option.bind_some, if_pos rfl]
      exact e3
  | succ n ih =>
    intro i fits x y h hi hI
    have hi1 : i - 1 < (N.bet A B).length := by omega
    have hi2 : i < (N.bet A B).length := by omega
    obtain ⟨X, hX⟩ : ∃ X, (N.bet A B)[i - 1]? = some X := ⟨_, List.getElem?_eq_getElem hi1⟩
    obtain ⟨Y, hY⟩ : ∃ Y, (N.bet A B)[i]? = some Y := ⟨_, List.getElem?_eq_getElem hi2⟩
    have hXm := List.mem_of_getElem? hX
    have hYm := List.mem_of_getElem? hY
    have cX := N.bet_carets hc hXm
    have cY := N.bet_carets hc hYm
    have hnear : Y ∈ N.near0 X := N.bet_steps hc (i - 1) X Y hX (by rw [Nat.sub_add_cancel hi]; exact hY)
    have r1 : rdOf ByteArray.empty ((N.bet A B).map N.tx) ((i : Int) - 1) = N.tx X := by
      rw [show (i : Int) - 1 = ((i - 1 : Nat) : Int) by omega, rdOf_get (by rw [List.length_map]; omega), List.getElem_map]
      congr 1
      rw [List.getElem?_eq_getElem hi1] at hX
      exact Option.some.inj hX
    have r2 : rdOf ByteArray.empty ((N.bet A B).map N.tx) (i : Int) = N.tx Y := by
      rw [rdOf_get (by rw [List.length_map]; omega), List.getElem_map]
      congr 1
      rw [List.getElem?_eq_getElem hi2] at hY
      exact Option.some.inj hY
    have f1 : impl_NeighboursOf.f (N.tx X) = some (N.nearS X, true) := by unfold impl_NeighboursOf.f; rw [N.parseT_tx, Option.bind_some, if_pos (by omega)]
    obtain ⟨K1, h1⟩ := fHas_l0 (N.tx Y) (N.nearS X) (by rw [N.nearS_length]; omega) (N.nearS X).length 0 rfl
    have hmem : N.tx Y ∈ N.nearS X := N.nearS_mem.2 ⟨Y, hnear, rfl⟩
    obtain ⟨u, v, ok, f2, hok⟩ : ∃ u v ok, impl_ProductPair.f x y (N.tx X) (N.tx Y) = some (u, v, ok) ∧ (fits = true → ok = true → ∃ p : N.Tr × N.Tr, u = N.tx p.1 ∧ v = N.tx p.2 ∧ N.Bal p ∧ p.2.carets ≤ 8 ∧ ∀ s, N.act p s = N.act (A, Y) s) := by
      refine ⟨_, _, _, rfl, fun hf hk => ?_⟩
      obtain ⟨p, rfl, rfl, hb, hp8, ha⟩ := hI hf
      have hq : N.Bal (X, Y) := show X.carets = Y.carets by omega
      have hbm := N.Bal.mul hb hq
      rw [N.pairT_yes hb hp8, N.pairT_yes (show X.carets = Y.carets by omega) (by omega)] at hk ⊢
      simp only at hk ⊢
      unfold N.ifF at hk ⊢
      by_cases h8' : (N.mul p (X, Y)).1.carets ≤ 8
      · rw [if_pos h8']
        refine ⟨N.mul p (X, Y), rfl, rfl, hbm, by have : (N.mul p (X, Y)).1.carets = (N.mul p (X, Y)).2.carets := hbm; omega, fun s => ?_⟩
        rw [N.act_mul hb hq, ha X hX s, N.act_comp (by omega) (by omega)]
      · rw [if_neg h8'] at hk; cases hk
    obtain ⟨K2, h2⟩ := ih (i + 1) (fits && ok) u v (by omega) (by omega) (fun hf => by
      rw [Bool.and_eq_true] at hf
      obtain ⟨p, e1, e2, hb, hp8, ha⟩ := hok hf.1 hf.2
      exact ⟨p, e1, e2, hb, hp8, fun Z hZ s => by
        rw [Nat.add_sub_cancel, hY] at hZ
        rw [← Option.some.inj hZ]; exact ha s⟩)
    refine ⟨K1 + K2 + 1, fun k hk => ?_⟩
    obtain ⟨k, rfl⟩ : ∃ k', k = k' + 1 := ⟨k - 1, by omega⟩
    have e1 : laws_fHas.f k (N.nearS X) (N.tx Y) = some true := by
      have := h1 k (by omega)
      rw [List.drop_zero, decide_eq_true hmem] at this
      exact this
    have e2 : laws_FnRotationDistance.l0 k l (N.tx A) (N.tx B) ((N.bet A B).map N.tx) (fits && ok) ((i + 1 : Nat) : Int) u v = some true := h2 k (by omega)
    rw [show ((i + 1 : Nat) : Int) = (i : Int) + 1 by omega] at e2
    show laws_FnRotationDistance.l0 (k + 1) _ _ _ _ _ _ _ _ = _
    rw [laws_FnRotationDistance.l0, if_pos (by rw [List.length_map]; omega), w64' (by omega), if_pos (by omega), if_pos (by rw [List.length_map]; omega), r1, f1, Option.bind_some]
    simp only []
    rw [if_pos trivial, if_pos (by omega), r2, e1, Option.bind_some, if_pos rfl, f2, Option.bind_some]
    simp only []
    rw [w64' (by omega)]
    cases fits with
    | true => rw [if_pos rfl]; exact e2
    | false => rw [if_neg (by decide)]; exact e2
theorem rd_law {l0 l1 : List Int} (h0 : Oct l0) (h1 : Oct l1) : ∃ k, laws_FnRotationDistance.f k l0 l1 = some true := by
  obtain ⟨x, y, K1, e1⟩ := drawCB_ev h0
  obtain ⟨K3, e3⟩ := rd_j3 h1
  have hbig : ∃ b, laws_big.f l0 l1 = some b := by
    unfold laws_big.f
    split
    · exact ⟨_, rfl⟩
    · exact ⟨_, rfl⟩
  obtain ⟨b, hb⟩ := hbig
  cases b with
  | true => exact ⟨0, by unfold laws_FnRotationDistance.f; rw [hb, Option.bind_some, if_pos rfl]⟩
  | false =>
    cases hp : N.pairT x y with
    | none =>
      have f1 : impl_ChainBetween.f x y = some ([], false) := by unfold impl_ChainBetween.f; rw [hp]
      obtain ⟨K2, e2⟩ := fTexts_ev [] (by simp)
      refine ⟨K1 + K2 + K3 + 2, ?_⟩
      have g1 : spec_DrawChainBetween.f (K1 + K2 + K3 + 2) l0 = some (x, y) := e1 _ (by omega)
      have g2 : laws_fTexts.f (K1 + K2 + K3 + 2) [] [] = some true := e2 _ (by omega)
      have g3 : laws_FnRotationDistance.j3 (K1 + K2 + K3 + 1) l1 = some true := e3 _ (by omega)
      unfold laws_FnRotationDistance.f
      rw [hb, Option.bind_some, if_neg (by decide), g1, Option.bind_some]
      simp only []
      rw [f1, Option.bind_some, show spec_ChainBetween.f x y = some ([], false) from f1, Option.bind_some]
      simp only []
      rw [if_neg (by decide), g2, Option.bind_some, laws_FnRotationDistance.j0, if_neg (by decide), if_neg (by decide)]
      exact g3
    | some p =>
      obtain ⟨A, B⟩ := p
      obtain ⟨rfl, rfl, hc, h8⟩ := N.pairT_some hp
      simp only at hc h8 hp e1
      have hlen := N.bet_length A B (by omega) (by omega)
      have f1 : impl_ChainBetween.f (N.tx A) (N.tx B) = some ((N.bet A B).map N.tx, true) := by unfold impl_ChainBetween.f; rw [hp]
      obtain ⟨K2, e2⟩ := fTexts_ev ((N.bet A B).map N.tx) (by rw [List.length_map]; omega)
      have hpos : 0 < (N.bet A B).length := (List.getElem?_eq_some_iff.1 (N.bet_head A B)).1
      obtain ⟨K4, e4⟩ := rd_l0 h1 hc h8 ((N.bet A B).length - 1) 1 true (N.tx .leaf) (N.tx .leaf) (by omega) (by omega) (fun _ => ⟨(.leaf, .leaf), rfl, rfl, rfl, by show (0 : Nat) ≤ 8; omega, fun X hX s => by
        rw [Nat.sub_self, N.bet_head] at hX
        rw [← Option.some.inj hX, N.act_self, N.act_self]⟩)
      refine ⟨K1 + K2 + K3 + K4 + 3, ?_⟩
      have g1 : spec_DrawChainBetween.f (K1 + K2 + K3 + K4 + 3) l0 = some (N.tx A, N.tx B) := e1 _ (by omega)
      have g2 : laws_fTexts.f (K1 + K2 + K3 + K4 + 3) ((N.bet A B).map N.tx) ((N.bet A B).map N.tx) = some true := e2 _ (by omega)
      have g4 : laws_FnRotationDistance.l0 (K1 + K2 + K3 + K4 + 1) l1 (N.tx A) (N.tx B) ((N.bet A B).map N.tx) true ((1 : Nat) : Int) (N.tx .leaf) (N.tx .leaf) = some true := e4 _ (by omega)
      have r0 : rdOf ByteArray.empty ((N.bet A B).map N.tx) 0 = N.tx A := by
        have := rdOf_get (l := (N.bet A B).map N.tx) (j := 0) (by rw [List.length_map]; omega)
        rw [show ((0 : Nat) : Int) = 0 from rfl] at this
        rw [this, List.getElem_map]
        congr 1
        have := N.bet_head A B
        rw [List.getElem?_eq_getElem hpos] at this
        exact Option.some.inj this
      have r1 : rdOf ByteArray.empty ((N.bet A B).map N.tx) (((N.bet A B).length : Int) - 1) = N.tx B := by
        rw [show ((N.bet A B).length : Int) - 1 = (((N.bet A B).length - 1 : Nat) : Int) by omega, rdOf_get (by rw [List.length_map]; omega), List.getElem_map]
        congr 1
        have := N.bet_last hc
        rw [List.getLast?_eq_getElem?, List.getElem?_eq_getElem (by omega)] at this
        exact Option.some.inj this
      unfold laws_FnRotationDistance.f
      rw [hb, Option.bind_some, if_neg (by decide), g1, Option.bind_some]
      simp only []
      rw [f1, Option.bind_some, show spec_ChainBetween.f (N.tx A) (N.tx B) = some ((N.bet A B).map N.tx, true) from f1, Option.bind_some]
      simp only []
      rw [if_neg (by decide), g2, Option.bind_some, laws_FnRotationDistance.j0, if_neg (by decide), if_pos rfl, List.length_map, if_pos (by omega), r0, if_pos rfl, w64' (by omega), if_pos (by omega), if_pos (by omega), r1]
      rw [show ((N.tx B).toList != (N.tx B).toList) = false by simp, laws_FnRotationDistance.j1, if_neg (by decide)]
      unfold impl_IdentityPair.f
      rw [Option.bind_some]
      exact g4
end Go.Proofs.Ytijnadjgmmednaa.PA
namespace Go.Proofs.Ytijnadjgmmednaa.Pure
open Go.RowKit Go.Proofs.Ytijnadjgmmednaa.PA Go.Proofs.YtijnadjgmmednaaW.PrintWords Go.Proofs.YtijnadjgmmednaaW.PrintLast
theorem FnRotationDistance : laws_FnRotationDistance.Pure := by
  intro l0 l1 _ _ h0 _ _ h1
  exact rd_law (oct_of' h0) (oct_of' h1)
end Go.Proofs.Ytijnadjgmmednaa.Pure
