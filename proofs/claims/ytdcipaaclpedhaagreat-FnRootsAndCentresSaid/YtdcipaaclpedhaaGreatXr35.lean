import Derived.Test.YtdcipaaclpedhaaGreatXr32
import Derived.Test.YtdcipaaclpedhaaGreatXr34
/- A part of the proof: lemmas that later parts use. -/
set_option linter.unusedVariables false
set_option linter.unusedSimpArgs false
namespace Go.Proofs.YtdcipaaclpedhaaGreat.PA
open Go.RowKit Go.Proofs.YtdcipaaclpedhaaGreatW.PrintWords Go.Proofs.YtdcipaaclpedhaaGreatW.PrintLast
theorem prS_len (L : List N.TP) : (prS (N.tps L)).length = L.length := by simp [prS, N.tps]
theorem prS_at (L : List N.TP) (j : Nat) (h : j < L.length) : rd_T25 (prS (N.tps L)) (j : Int) = ⟨N.tx L[j].1, N.tx L[j].2⟩ := by
  show (prS (N.tps L)).getD j _ = _
  rw [List.getD_eq_getElem?_getD]
  simp [prS, N.tps, h]
theorem np_l0 (x : List S25) (hx : x.length ≤ 100000) : ∀ i j : Nat, i + j = x.length → Ev (fun k => laws_nPairs.l0 k x x (x.length : Int) (j : Int)) true
  | 0, j, h => ⟨1, fun k hk => by
      obtain ⟨k, rfl⟩ : ∃ k', k = k' + 1 := ⟨k - 1, by omega⟩
      show laws_nPairs.l0 (k + 1) _ _ _ _ = _
      rw [laws_nPairs.l0, if_neg (by omega)]⟩
  | i + 1, j, h => by
    obtain ⟨K, hK⟩ := np_l0 x hx i (j + 1) (by omega)
    refine ⟨K + 1, fun k hk => ?_⟩
    obtain ⟨k, rfl⟩ : ∃ k', k = k' + 1 := ⟨k - 1, by omega⟩
    have e : laws_nPairs.l0 k x x (x.length : Int) ((j + 1 : Nat) : Int) = some true := hK k (by omega)
    show laws_nPairs.l0 (k + 1) _ _ _ _ = _
    rw [laws_nPairs.l0, if_pos (by omega), if_pos (by omega), if_pos (by omega), if_pos (by omega), if_neg (by simp), w64 (by omega), show (j : Int) + 1 = ((j + 1 : Nat) : Int) by omega, e]
theorem np_self (x : List S25) (hx : x.length ≤ 100000) : Ev (fun k => laws_nPairs.f k x x) true := by
  obtain ⟨K, hK⟩ := np_l0 x hx x.length 0 (by omega)
  refine ⟨K, fun k hk => ?_⟩
  show laws_nPairs.f k x x = _
  unfold laws_nPairs.f
  rw [if_pos rfl]
  exact hK k hk
theorem ro_draw {l : List Int} (hl : Oct l) {P : N.Tr × N.Tr} (hP : P.1.carets = P.2.carets) (h3 : P.2.carets ≤ 3) (n : Nat) (n5 : n ≤ 5) {a s : Int} (hL : Lf 1000 a) : ∀ i j : Nat, i + j = n → ∀ Q : N.Tr × N.Tr, Q.1.carets = Q.2.carets → Q.2.carets ≤ 3 * j →
    ∃ v, Ev (fun k => spec_DrawRootsOf.l0 k (n : Int) (j : Int) l a s (N.tx P.1) (N.tx P.2) (N.tx Q.1) (N.tx Q.2)) v
  | 0, j, h, Q, q1, q2 => by
    obtain ⟨g, hg⟩ : ∃ g, spec_prGood.f (N.tx Q.1) (N.tx Q.2) = some g := ⟨_, rfl⟩
    cases g with
    | false =>
      obtain ⟨x, y, a1, s1, ⟨K, h1⟩, _⟩ := pair_ev hl (m := 0) (a := a) (s := s) 4 (by omega) (by unfold Lf at *; omega)
      refine ⟨(x, y, (n : Int)), K + 1, fun k hk => ?_⟩
      obtain ⟨k, rfl⟩ : ∃ k', k = k' + 1 := ⟨k - 1, by omega⟩
      have e : spec_l1Cur_pair.f k l a s 4 = some (x, y, a1, s1) := h1 k (by omega)
      show spec_DrawRootsOf.l0 (k + 1) _ _ _ _ _ _ _ _ _ = _
      rw [spec_DrawRootsOf.l0, if_neg (by omega), hg, Option.bind_some, if_neg (by decide), e, Option.bind_some]
    | true =>
      obtain ⟨b, a1, s1, e1, h1⟩ := one_tot hl (m := 500) (a := a) (s := s) 4 (by omega) (by unfold Lf at *; omega)
      cases b with
      | false =>
        refine ⟨(N.tx Q.1, N.tx Q.2, (n : Int)), 1, fun k hk => ?_⟩
        obtain ⟨k, rfl⟩ : ∃ k', k = k' + 1 := ⟨k - 1, by omega⟩
        show spec_DrawRootsOf.l0 (k + 1) _ _ _ _ _ _ _ _ _ = _
        rw [spec_DrawRootsOf.l0, if_neg (by omega), hg, Option.bind_some, if_pos rfl, e1, Option.bind_some, if_neg (by simp)]
      | true =>
        obtain ⟨x, y, a2, s2, ⟨K, h2⟩, _⟩ := pair_ev hl (m := 0) (a := a1) (s := s1) 4 (by omega) (by unfold Lf at *; omega)
        refine ⟨(x, y, (n : Int)), K + 1, fun k hk => ?_⟩
        obtain ⟨k, rfl⟩ : ∃ k', k = k' + 1 := ⟨k - 1, by omega⟩
        have e : spec_l1Cur_pair.f k l a1 s1 4 = some (x, y, a2, s2) := h2 k (by omega)
        show spec_DrawRootsOf.l0 (k + 1) _ _ _ _ _ _ _ _ _ = _
        rw [spec_DrawRootsOf.l0, if_neg (by omega), hg, Option.bind_some, if_pos rfl, e1, Option.bind_some, if_pos rfl]
        dsimp only
        rw [e, Option.bind_some]
  | i + 1, j, h, Q, q1, q2 => by
    have m1 := N.mul_carets (p := Q) (q := P) q1 hP
    obtain ⟨v, K, hK⟩ := ro_draw hl hP h3 n n5 hL i (j + 1) (by omega) (N.mul Q P) m1.1 (by omega)
    refine ⟨v, K + 1, fun k hk => ?_⟩
    obtain ⟨k, rfl⟩ : ∃ k', k = k' + 1 := ⟨k - 1, by omega⟩
    have e : spec_DrawRootsOf.l0 k (n : Int) ((j + 1 : Nat) : Int) l a s (N.tx P.1) (N.tx P.2) (N.tx (N.mul Q P).1) (N.tx (N.mul Q P).2) = some v := hK k (by omega)
    have et : spec_prTimes.f (N.tx Q.1) (N.tx Q.2) (N.tx P.1) (N.tx P.2) = some (N.tx (N.mul Q P).1, N.tx (N.mul Q P).2) := by
      unfold spec_prTimes.f
      rw [N.anyT_yes q1 (by omega), N.anyT_yes hP (by omega)]
    show spec_DrawRootsOf.l0 (k + 1) _ _ _ _ _ _ _ _ _ = _
    rw [spec_DrawRootsOf.l0, if_pos (by omega), et, Option.bind_some, w64 (by omega), show (j : Int) + 1 = ((j + 1 : Nat) : Int) by omega, e]
theorem drawRO_ev {l : List Int} (hl : Oct l) : ∃ v, Ev (fun k => spec_DrawRootsOf.f k l) v := by
  obtain ⟨n, a1, s1, e1, hn, h1⟩ := among_tot hl (m := 2000) (a := 0) (s := 0) [2, 2, 3, 4, 1, 5] (by decide) (by decide) (by unfold Lf; omega)
  obtain ⟨r, a2, s2, e2, r0, r1, h2⟩ := pick_tot hl (m := 1500) (a := a1) (s := s1) 4 (by omega) (by unfold Lf at *; omega)
  have r4 := r1 (by omega)
  obtain ⟨c, rfl⟩ : ∃ c : Nat, r = c := ⟨r.toNat, by omega⟩
  obtain ⟨T, U, a3, s3, e3, hT, hU, h3⟩ := surePair_tot hl (m := 1000) (a := a2) (s := s2) c (by omega) 10 (by omega) (by unfold Lf at *; omega)
  obtain ⟨K1, g1⟩ := Ev.of (fun k => spec_l1Cur_surePair.mono _ _ _ _ k) (k := 10) e3
  have n05 : 0 ≤ n ∧ n ≤ 5 := by simp only [List.mem_cons, List.not_mem_nil, or_false] at hn; omega
  obtain ⟨m, rfl⟩ : ∃ m : Nat, n = m := ⟨n.toNat, by omega⟩
  obtain ⟨v, K2, g2⟩ := ro_draw hl (P := (T, U)) (by rw [hT, hU]) (by simp only; omega) m (by omega) (a := a3) (s := s3) h3 m 0 (by omega) (.leaf, .leaf) rfl (Nat.zero_le _)
  refine ⟨v, K1 + K2, fun k hk => ?_⟩
  have f1 : spec_l1Cur_surePair.f k l a2 s2 (c : Int) = some (N.tx T, N.tx U, a3, s3) := g1 k (by omega)
  have f2 : spec_DrawRootsOf.l0 k (m : Int) ((0 : Nat) : Int) l a3 s3 (N.tx T) (N.tx U) (N.tx .leaf) (N.tx .leaf) = some v := g2 k (by omega)
  show spec_DrawRootsOf.f k l = _
  unfold spec_DrawRootsOf.f spec_prUnit.f
  rw [e1, Option.bind_some, e2, Option.bind_some]
  dsimp only
  rw [f1, Option.bind_some, Option.bind_some]
  exact f2
theorem drawCW_ev {l : List Int} (hl : Oct l) : ∃ v, Ev (fun k => spec_DrawCommutingWith.f k l) v := by
  obtain ⟨x, y, a, s, ⟨K, h1⟩, hL⟩ := pair_ev hl (m := 1000) (a := 0) (s := 0) 3 (by omega) (by unfold Lf; omega)
  obtain ⟨n, a1, s1, e1, _, _⟩ := among_tot hl (m := 0) (a := a) (s := s) [0, 1, 2, 3, 3, 4, -1] (by decide) (by decide) (by unfold Lf at *; omega)
  refine ⟨(x, y, n), K, fun k hk => ?_⟩
  have e : spec_l1Cur_pair.f k l 0 0 3 = some (x, y, a, s) := h1 k hk
  show spec_DrawCommutingWith.f k l = _
  unfold spec_DrawCommutingWith.f
  rw [e, Option.bind_some]
  dsimp only
  rw [e1, Option.bind_some]
theorem drawSP_tot {l : List Int} (hl : Oct l) : ∃ n, spec_DrawSmallPairs.f l = some n := by
  obtain ⟨n, a1, s1, e1, _, _⟩ := among_tot hl (m := 0) (a := 0) (s := 0) [0, 1, 2, 3, 4, -1] (by decide) (by decide) (by unfold Lf; omega)
  exact ⟨n, by unfold spec_DrawSmallPairs.f; rw [e1, Option.bind_some]⟩
theorem ro_l2 (n : Nat) (n3 : n ≤ 3) (x1 : List S25) (hx : x1.length = (N.smallP n).length) : ∀ i j : Nat, i + j = n + 1 → Ev (fun k => laws_FnRootsAndCentres.l2 k (n : Int) x1 ((((List.range j).flatMap N.prs).length : Nat) : Int) (j : Int)) true
  | 0, j, h => ⟨1, fun k hk => by
      obtain ⟨k, rfl⟩ : ∃ k', k = k' + 1 := ⟨k - 1, by omega⟩
      obtain rfl : j = n + 1 := by omega
      show laws_FnRootsAndCentres.l2 (k + 1) _ _ _ _ = _
      rw [laws_FnRootsAndCentres.l2, if_neg (by omega), hx]
      show some (((((N.smallP n).length : Nat) : Int)) == ((N.smallP n).length : Int)) = _
      simp⟩
  | i + 1, j, h => by
    obtain ⟨K, hK⟩ := ro_l2 n n3 x1 hx i (j + 1) (by omega)
    refine ⟨K + 1, fun k hk => ?_⟩
    obtain ⟨k, rfl⟩ : ∃ k', k = k' + 1 := ⟨k - 1, by omega⟩
    have e : laws_FnRootsAndCentres.l2 k (n : Int) x1 ((((List.range (j + 1)).flatMap N.prs).length : Nat) : Int) ((j + 1 : Nat) : Int) = some true := hK k (by omega)
    have c : impl_CountReduced.f (j : Int) = some ((((N.prs j).length : Nat) : Int), true) := by
      unfold impl_CountReduced.f
      rw [if_pos (by omega)]
      rfl
    have b1 := N.smallP_le j (by omega)
    have b2 := N.prs_le j (by omega)
    have b3 : ((List.range (j + 1)).flatMap N.prs).length = ((List.range j).flatMap N.prs).length + (N.prs j).length := by rw [N.smallP_step, List.length_append]
    show laws_FnRootsAndCentres.l2 (k + 1) _ _ _ _ = _
    rw [laws_FnRootsAndCentres.l2, if_pos (by omega), c, Option.bind_some]
    dsimp only
    rw [if_pos rfl, w64 (by omega), w64 (by omega), show (((List.range j).flatMap N.prs).length : Int) + ((N.prs j).length : Nat) = ((((List.range (j + 1)).flatMap N.prs).length : Nat) : Int) by omega, show (j : Int) + 1 = ((j + 1 : Nat) : Int) by omega, e]
theorem smallP_lim {n : Nat} (h : n ≤ 3) : (N.smallP n).length ≤ 1000 := by
  have := N.smallP_le (n + 1) (by omega)
  have : (N.smallP n).length = ((List.range (n + 1)).flatMap N.prs).length := rfl
  omega
theorem ro_j6 (n : Int) : ∃ row ok, impl_SmallPairs.f n = some (row, ok) ∧ row.length ≤ 1000 ∧ Ev (fun k => laws_FnRootsAndCentres.j6 k n row ok false) true := by
  by_cases hn : 0 ≤ n ∧ n ≤ 3
  · obtain ⟨m, rfl⟩ : ∃ m : Nat, n = m := ⟨n.toNat, by omega⟩
    refine ⟨prS (N.tps (N.smallP m)), true, ?_, by rw [prS_len]; exact smallP_lim (by omega), ?_⟩
    · unfold impl_SmallPairs.f smallF
      rw [if_pos hn]
      rfl
    · obtain ⟨K, hK⟩ := ro_l2 m (by omega) (prS (N.tps (N.smallP m))) (prS_len _) (m + 1) 0 (by omega)
      refine ⟨K + 1, fun k hk => ?_⟩
      obtain ⟨k, rfl⟩ : ∃ k', k = k' + 1 := ⟨k - 1, by omega⟩
      have e : laws_FnRootsAndCentres.l2 k (m : Int) (prS (N.tps (N.smallP m))) 0 0 = some true := hK k (by omega)
      show laws_FnRootsAndCentres.j6 (k + 1) _ _ _ _ = _
      rw [laws_FnRootsAndCentres.j6, if_neg (by decide), if_pos rfl, e]
  · refine ⟨[], false, ?_, by decide, 1, fun k hk => ?_⟩
    · unfold impl_SmallPairs.f smallF
      rw [if_neg hn]
      rfl
    · obtain ⟨k, rfl⟩ : ∃ k', k = k' + 1 := ⟨k - 1, by omega⟩
      show laws_FnRootsAndCentres.j6 (k + 1) _ _ _ _ = _
      rw [laws_FnRootsAndCentres.j6, if_neg (by decide), if_neg (by decide)]
theorem ro_j5 {l1 : List Int} (h1 : Oct l1) : Ev (fun k => laws_FnRootsAndCentres.j5 k l1) true := by
  obtain ⟨n, hn⟩ := drawSP_tot h1
  obtain ⟨row, ok, hi, hr, K1, e1⟩ := ro_j6 n
  have hs : spec_SmallPairs.f n = some (row, ok) := hi
  obtain ⟨K2, e2⟩ := np_self row (by omega)
  refine ⟨K1 + K2 + 1, fun k hk => ?_⟩
  obtain ⟨k, rfl⟩ : ∃ k', k = k' + 1 := ⟨k - 1, by omega⟩
  have g1 : laws_FnRootsAndCentres.j6 k n row ok false = some true := e1 k (by omega)
  have g2 : laws_nPairs.f k row row = some true := e2 k (by omega)
  show laws_FnRootsAndCentres.j5 (k + 1) _ = _
  rw [laws_FnRootsAndCentres.j5, hn, Option.bind_some, hi, Option.bind_some, hs, Option.bind_some]
  dsimp only
  rw [if_neg (by simp), g2, Option.bind_some]
  exact g1
theorem ro_l1 {l1 : List Int} (h1 : Oct l1) (n : Nat) (n3 : n ≤ 3) {s t : ByteArray} {p : N.TP} (hp : N.pairT s t = some p) (M : List N.TP) (hM : ∀ q ∈ M, N.comm p q = true ∧ q.1.carets = q.2.carets ∧ q.1.carets ≤ n) (hL : M.length ≤ 1000) (hR : M.Pairwise fun a b => a.1.carets ≤ b.1.carets) :
    ∀ i j : Nat, i + j = M.length → ∀ (f : Bool) (c : Nat), (f = true ∨ N.one ∈ M.drop j) → (∀ q ∈ M.drop j, c ≤ q.1.carets) → Ev (fun k => laws_FnRootsAndCentres.l1 k l1 (n : Int) f (c : Int) (prS (N.tps M)) ((prS (N.tps M)).length : Int) (j : Int) s t) true
  | 0, j, h, f, c, hf, hc => by
    obtain ⟨K, hK⟩ := ro_j5 h1
    have hd : M.drop j = [] := List.drop_eq_nil_of_le (by omega)
    have ff : f = true := by
      rcases hf with hf | hf
      · exact hf
      · rw [hd] at hf; cases hf
    refine ⟨K + 1, fun k hk => ?_⟩
    obtain ⟨k, rfl⟩ : ∃ k', k = k' + 1 := ⟨k - 1, by omega⟩
    have e : laws_FnRootsAndCentres.j5 k l1 = some true := hK k (by omega)
    show laws_FnRootsAndCentres.l1 (k + 1) _ _ _ _ _ _ _ _ _ = _
    rw [laws_FnRootsAndCentres.l1, if_neg (by rw [prS_len]; omega), if_pos ff, e]
  | i + 1, j, h, f, c, hf, hc => by
    have hj : j < M.length := by omega
    have j0 : (0 : Int) ≤ (j : Int) := by omega
    have jl : (j : Int) < ((prS (N.tps M)).length : Int) := by rw [prS_len]; omega
    have hd : M.drop j = M[j] :: M.drop (j + 1) := List.drop_eq_getElem_cons hj
    obtain ⟨q1, q2, q3⟩ := hM _ (List.getElem_mem hj)
    have hat := prS_at M j hj
    have cj : c ≤ M[j].1.carets := hc _ (by rw [hd]; exact List.mem_cons_self)
    have hR2 : ∀ q ∈ M.drop (j + 1), M[j].1.carets ≤ q.1.carets := by
      have := hR.drop (i := j)
      rw [hd] at this
      exact (List.pairwise_cons.1 this).1
    have step : ∀ f' : Bool, (f' = true ∨ N.one ∈ M.drop (j + 1)) → ∃ K, ∀ k, K ≤ k → laws_FnRootsAndCentres.j4 k l1 (n : Int) f' (c : Int) (prS (N.tps M)) ((prS (N.tps M)).length : Int) (j : Int) s t (N.tx M[j].1) (N.tx M[j].2) = some true := by
      intro f' hf'
      obtain ⟨K, hK⟩ := ro_l1 h1 n n3 hp M hM hL hR i (j + 1) (by omega) f' M[j].1.carets hf' hR2
      refine ⟨K + 1, fun k hk => ?_⟩
      obtain ⟨k, rfl⟩ : ∃ k', k = k' + 1 := ⟨k - 1, by omega⟩
      have e : laws_FnRootsAndCentres.l1 k l1 (n : Int) f' (M[j].1.carets : Int) (prS (N.tps M)) ((prS (N.tps M)).length : Int) ((j + 1 : Nat) : Int) s t = some true := hK k (by omega)
      have hq : N.pairT (N.tx M[j].1) (N.tx M[j].2) = some M[j] := N.pairT_yes q2 (by omega)
      have hdc : ∃ b, impl_DoCommute.f s t (N.tx M[j].1) (N.tx M[j].2) = some (b, b) := by
        unfold impl_DoCommute.f
        rw [hp, hq, Option.bind_some, Option.bind_some, q1]
        split
        · exact ⟨true, rfl⟩
        · exact ⟨false, rfl⟩
      obtain ⟨b, hb⟩ := hdc
      have hcc : impl_CaretsOf.f (N.tx M[j].1) = some ((M[j].1.carets : Int), true) := by
        unfold impl_CaretsOf.f
        rw [N.parseT_tx, Option.bind_some, if_pos (by omega)]
      rw [laws_FnRootsAndCentres.j4, hb, Option.bind_some, hcc, Option.bind_some]
      dsimp only
      have w : wrap64 ((j : Int) + 1) = ((j + 1 : Nat) : Int) := by rw [w64 (by omega)]; omega
      rw [w, e]
      cases b with
      | false => rw [if_neg (by decide), if_pos rfl, if_neg (by omega), if_neg (by omega)]
      | true => rw [if_pos rfl, if_pos rfl, if_pos rfl, if_neg (by omega), if_neg (by omega)]
    cases f with
    | true =>
      obtain ⟨K, hK⟩ := step true (Or.inl rfl)
      refine ⟨K + 1, fun k hk => ?_⟩
      obtain ⟨k, rfl⟩ : ∃ k', k = k' + 1 := ⟨k - 1, by omega⟩
      have e := hK k (by omega)
      show laws_FnRootsAndCentres.l1 (k + 1) _ _ _ _ _ _ _ _ _ = _
      rw [laws_FnRootsAndCentres.l1, if_pos jl, if_pos j0, if_pos jl, if_pos rfl, hat]
      exact e
    | false =>
      have ho : N.one ∈ M.drop j := hf.resolve_left (by decide)
      rw [hd] at ho
      obtain ⟨b, hb⟩ : ∃ b, ((N.tx M[j].1).toList == (⟨#[46]⟩ : ByteArray).toList && ((N.tx M[j].2).toList == (⟨#[46]⟩ : ByteArray).toList)) = b := ⟨_, rfl⟩
      have hb2 : b = true ∨ N.one ∈ M.drop (j + 1) := by
        rcases List.mem_cons.1 ho with hq | hq
        · left
          rw [← hb, ← hq]
          show ((N.tx .leaf).toList == (⟨#[46]⟩ : ByteArray).toList && ((N.tx .leaf).toList == (⟨#[46]⟩ : ByteArray).toList)) = true
          rw [N.tx_leaf]
          simp
        · exact Or.inr hq
      obtain ⟨K, hK⟩ := step b hb2
      refine ⟨K + 1, fun k hk => ?_⟩
      obtain ⟨k, rfl⟩ : ∃ k', k = k' + 1 := ⟨k - 1, by omega⟩
      have e := hK k (by omega)
      show laws_FnRootsAndCentres.l1 (k + 1) _ _ _ _ _ _ _ _ _ = _
      rw [laws_FnRootsAndCentres.l1, if_pos jl, if_pos j0, if_pos jl, if_neg (by decide), hat]
      unfold impl_IdentityPair.f
      rw [Option.bind_some]
      dsimp only
      rw [hb]
      exact e
theorem ro_j2 {l1 : List Int} (h1 : Oct l1) (s t : ByteArray) (n : Int) : ∃ row ok, impl_CommutingWith.f s t n = some (row, ok) ∧ row.length ≤ 1000 ∧ Ev (fun k => laws_FnRootsAndCentres.j2 k l1 n row ok false s t) true := by
  have no : ∀ row : List S25, Ev (fun k => laws_FnRootsAndCentres.j2 k l1 n row false false s t) true := fun row => by
    obtain ⟨K, hK⟩ := ro_j5 h1
    refine ⟨K + 1, fun k hk => ?_⟩
    obtain ⟨k, rfl⟩ : ∃ k', k = k' + 1 := ⟨k - 1, by omega⟩
    have e : laws_FnRootsAndCentres.j5 k l1 = some true := hK k (by omega)
    show laws_FnRootsAndCentres.j2 (k + 1) _ _ _ _ _ _ _ = _
    rw [laws_FnRootsAndCentres.j2, if_neg (by decide), if_neg (by decide), e]
  cases hp : N.pairT s t with
  | none => exact ⟨[], false, by unfold impl_CommutingWith.f commF; rw [hp]; rfl, by decide, no _⟩
  | some p =>
    by_cases hn : 0 ≤ n ∧ n ≤ 3
    · obtain ⟨m, rfl⟩ : ∃ m : Nat, n = m := ⟨n.toNat, by omega⟩
      obtain ⟨_, _, b1, b2⟩ := N.pairT_some hp
      have len : ((N.smallP m).filter (N.comm p)).length ≤ 1000 := Nat.le_trans (List.length_filter_le _ _) (smallP_lim (by omega))
      refine ⟨prS (N.tps ((N.smallP m).filter (N.comm p))), true, ?_, by rw [prS_len]; exact len, ?_⟩
      · unfold impl_CommutingWith.f commF
        rw [hp]
        simp only
        rw [if_pos hn]
        rfl
      · have hM : ∀ q ∈ (N.smallP m).filter (N.comm p), N.comm p q = true ∧ q.1.carets = q.2.carets ∧ q.1.carets ≤ m := fun q hq => by
          obtain ⟨g1, g2⟩ := List.mem_filter.1 hq
          obtain ⟨k, k1, k2, k3, _⟩ := N.smallP_mem g1
          exact ⟨g2, by omega, by omega⟩
        obtain ⟨K, hK⟩ := ro_l1 h1 m (by omega) hp _ hM len ((N.smallP_rise m).filter _) _ 0 (Nat.add_zero _) false 0 (Or.inr (List.mem_filter.2 ⟨N.one_small m, N.comm_one b1⟩)) (fun q _ => Nat.zero_le _)
        refine ⟨K + 1, fun k hk => ?_⟩
        obtain ⟨k, rfl⟩ : ∃ k', k = k' + 1 := ⟨k - 1, by omega⟩
        have e := hK k (by omega)
        show laws_FnRootsAndCentres.j2 (k + 1) _ _ _ _ _ _ _ = _
        rw [laws_FnRootsAndCentres.j2, if_neg (by decide), if_pos rfl]
        exact e
    · exact ⟨[], false, by unfold impl_CommutingWith.f commF; rw [hp]; simp only; rw [if_neg hn]; rfl, by decide, no _⟩
theorem ro_end {l1 : List Int} (h1 : Oct l1) : ∃ K, ∀ k, K ≤ k → ∀ (x6 : Int) (x76 : List S25) (x77 x78 : Int) (s t : ByteArray), ¬ x78 < x77 → laws_FnRootsAndCentres.l0 (k + 1) l1 x6 x76 x77 x78 s t = some true := by
  obtain ⟨⟨s', t', n'⟩, K1, d1⟩ := drawCW_ev h1
  obtain ⟨row, ok, hi, hr, K2, d2⟩ := ro_j2 h1 s' t' n'
  have hs : spec_CommutingWith.f s' t' n' = some (row, ok) := hi
  obtain ⟨K3, d3⟩ := np_self row (by omega)
  refine ⟨K1 + K2 + K3, fun k hk x6 x76 x77 x78 s t hx => ?_⟩
  have g1 : spec_DrawCommutingWith.f k l1 = some (s', t', n') := d1 k (by omega)
  have g2 : laws_FnRootsAndCentres.j2 k l1 n' row ok false s' t' = some true := d2 k (by omega)
  have g3 : laws_nPairs.f k row row = some true := d3 k (by omega)
  rw [laws_FnRootsAndCentres.l0, if_neg hx, g1, Option.bind_some]
  dsimp only
  rw [hi, Option.bind_some, hs, Option.bind_some]
  dsimp only
  rw [if_neg (by simp), g3, Option.bind_some]
  exact g2
theorem ro_l0 {l1 : List Int} (h1 : Oct l1) (n : Int) (s t : ByteArray) (L : List N.TP) (hL : L.length ≤ 1) (hq : ∀ q ∈ L, ∃ p, N.pairT s t = some p ∧ (2 ≤ n ∧ n ≤ 4) ∧ q.1.carets = q.2.carets ∧ q.2.carets ≤ 3 ∧ N.rootB p n.toNat q = true) :
    ∀ i j : Nat, i + j = L.length → Ev (fun k => laws_FnRootsAndCentres.l0 k l1 n (prS (N.tps L)) ((prS (N.tps L)).length : Int) (j : Int) s t) true
  | 0, j, h => by
    obtain ⟨K, hK⟩ := ro_end h1
    refine ⟨K + 1, fun k hk => ?_⟩
    obtain ⟨k, rfl⟩ : ∃ k', k = k' + 1 := ⟨k - 1, by omega⟩
    exact hK k (by omega) _ _ _ _ _ _ (by rw [prS_len]; omega)
  | i + 1, j, h => by
    have hj : j < L.length := by omega
    have j0 : (0 : Int) ≤ (j : Int) := by omega
    have jl : (j : Int) < ((prS (N.tps L)).length : Int) := by rw [prS_len]; omega
    obtain ⟨K, hK⟩ := ro_l0 h1 n s t L hL hq i (j + 1) (by omega)
    refine ⟨K + 1, fun k hk => ?_⟩
    obtain ⟨k, rfl⟩ : ∃ k', k = k' + 1 := ⟨k - 1, by omega⟩
    have e : laws_FnRootsAndCentres.l0 k l1 n (prS (N.tps L)) ((prS (N.tps L)).length : Int) ((j + 1 : Nat) : Int) s t = some true := hK k (by omega)
    obtain ⟨p, hp, hn, q1, q2, q3⟩ := hq _ (List.getElem_mem hj)
    have hat := prS_at L j hj
    obtain ⟨_, _, b1, b2⟩ := N.pairT_some hp
    have hqp : N.pairT (N.tx L[j].1) (N.tx L[j].2) = some L[j] := N.pairT_yes q1 (by omega)
    have hc := N.root_comm b1 q1 q3
    have m1 : impl_ProductPair.f s t (N.tx L[j].1) (N.tx L[j].2) = some (N.ifF (N.mul p L[j])) := by unfold impl_ProductPair.f; rw [hp, hqp]
    have m2 : impl_ProductPair.f (N.tx L[j].1) (N.tx L[j].2) s t = some (N.ifF (N.mul p L[j])) := by unfold impl_ProductPair.f; rw [hp, hqp, hc]
    have rr : laws_nReduced.f s t = some (N.tx (N.red p).1, N.tx (N.red p).2) := by unfold laws_nReduced.f impl_ReducePair.f; rw [hp]; rfl
    have w : wrap64 ((j : Int) + 1) = ((j + 1 : Nat) : Int) := by rw [w64 (by omega)]; omega
    obtain ⟨z, hz⟩ : ∃ z, N.ifF (N.mul p L[j]) = z := ⟨_, rfl⟩
    obtain ⟨z1, z2, z3⟩ := z
    rw [hz] at m1 m2
    have hpow : ∃ y, impl_PowerPair.f (N.tx L[j].1) (N.tx L[j].2) n = some y ∧ (y.2.2 = true → y.1 = N.tx (N.red p).1 ∧ y.2.1 = N.tx (N.red p).2) := by
      unfold impl_PowerPair.f
      rw [hqp, Option.bind_some, if_pos (by omega)]
      refine ⟨_, rfl, ?_⟩
      cases hF : N.powF L[j] n.toNat with
      | none => intro hh; cases hh
      | some r =>
        intro _
        have := (N.powF_eq hF).trans (N.root_pow q3)
        subst this
        exact ⟨rfl, rfl⟩
    obtain ⟨⟨y1, y2, y3⟩, hy, hy2⟩ := hpow
    show laws_FnRootsAndCentres.l0 (k + 1) _ _ _ _ _ _ _ = _
    rw [laws_FnRootsAndCentres.l0, if_pos jl, if_pos j0, if_pos jl, hat]
    dsimp only
    rw [hy, Option.bind_some, m1, Option.bind_some, m2, Option.bind_some]
    dsimp only
    rw [w, e]
    have k1 : ¬ ((z3 != z3) = true) := by simp
    have k2 : ¬ ((!(z1.toList == z1.toList) || (!(z2.toList == z2.toList))) = true) := by simp
    cases y3 with
    | false =>
      rw [if_neg (by decide), if_neg k1, if_neg k2]
      split <;> rfl
    | true =>
      obtain ⟨g1, g2⟩ := hy2 rfl
      simp only at g1 g2
      subst g1
      subst g2
      rw [if_pos rfl, rr, Option.bind_some]
      dsimp only
      rw [if_neg (by simp), if_neg k1, if_neg k2]
      split <;> rfl
theorem ro_roots (s t : ByteArray) (n : Int) : ∃ (L : List N.TP) (ok : Bool), impl_RootsOf.f s t n = some (prS (N.tps L), ok) ∧ L.length ≤ 1 ∧ ∀ q ∈ L, ∃ p, N.pairT s t = some p ∧ (2 ≤ n ∧ n ≤ 4) ∧ q.1.carets = q.2.carets ∧ q.2.carets ≤ 3 ∧ N.rootB p n.toNat q = true := by
  cases hp : N.pairT s t with
  | none => exact ⟨[], false, by unfold impl_RootsOf.f rootsF; rw [hp]; rfl, by decide, fun q hq => by cases hq⟩
  | some p =>
    by_cases hn : 2 ≤ n ∧ n ≤ 4
    · refine ⟨(N.smallP 3).filter (N.rootB p n.toNat), true, ?_, N.one_root p n.toNat (by omega) (by omega), fun q hq => ?_⟩
      · unfold impl_RootsOf.f rootsF
        rw [hp]
        simp only
        rw [if_pos hn]
        rfl
      · obtain ⟨g1, g2⟩ := List.mem_filter.1 hq
        obtain ⟨k, k1, k2, k3, _⟩ := N.smallP_mem g1
        exact ⟨p, rfl, hn, by omega, by omega, g2⟩
    · exact ⟨[], false, by unfold impl_RootsOf.f rootsF; rw [hp]; simp only; rw [if_neg hn]; rfl, by decide, fun q hq => by cases hq⟩
theorem ro_law {l0 l1 : List Int} (h0 : Oct l0) (h1 : Oct l1) : ∃ k, laws_FnRootsAndCentres.f k l0 l1 = some true := by
  obtain ⟨⟨s, t, n⟩, K1, d1⟩ := drawRO_ev h0
  obtain ⟨b, hb⟩ : ∃ b, laws_big.f l0 l1 = some b := by
    unfold laws_big.f
    split
    · exact ⟨_, rfl⟩
    · exact ⟨_, rfl⟩
  cases b with
  | true => exact ⟨0, by unfold laws_FnRootsAndCentres.f; rw [hb, Option.bind_some, if_pos rfl]⟩
  | false =>
    obtain ⟨L, ok, hi, hL, hq⟩ := ro_roots s t n
    have hs : spec_RootsOf.f s t n = some (prS (N.tps L), ok) := hi
    obtain ⟨K2, d2⟩ := np_self (prS (N.tps L)) (by rw [prS_len]; omega)
    obtain ⟨K3, d3⟩ := ro_l0 h1 n s t L hL hq L.length 0 (Nat.add_zero _)
    refine ⟨K1 + K2 + K3 + 1, ?_⟩
    have g1 : spec_DrawRootsOf.f (K1 + K2 + K3 + 1) l0 = some (s, t, n) := d1 _ (by omega)
    have g2 : laws_nPairs.f (K1 + K2 + K3 + 1) (prS (N.tps L)) (prS (N.tps L)) = some true := d2 _ (by omega)
    have g3 : laws_FnRootsAndCentres.l0 (K1 + K2 + K3) l1 n (prS (N.tps L)) ((prS (N.tps L)).length : Int) ((0 : Nat) : Int) s t = some true := d3 _ (by omega)
    have big : decide (((prS (N.tps L)).length : Int) > 1) = false := decide_eq_false (by rw [prS_len]; omega)
    unfold laws_FnRootsAndCentres.f
    rw [hb, Option.bind_some, if_neg (by decide), g1, Option.bind_some]
    dsimp only
    rw [hi, Option.bind_some, hs, Option.bind_some]
    dsimp only
    rw [if_neg (by simp), g2, Option.bind_some, if_pos rfl, big, laws_FnRootsAndCentres.j0, if_neg (by decide)]
    exact g3
end Go.Proofs.YtdcipaaclpedhaaGreat.PA
namespace Go.Proofs.YtdcipaaclpedhaaGreat.Pure
open Go.RowKit Go.Proofs.YtdcipaaclpedhaaGreat.PA Go.Proofs.YtdcipaaclpedhaaGreatW.PrintWords Go.Proofs.YtdcipaaclpedhaaGreatW.PrintLast
theorem FnRootsAndCentres : laws_FnRootsAndCentres.Pure := by
  intro l0 l1 _ _ h0 _ _ h1
  exact ro_law (oct_of3 h0) (oct_of3 h1)
end Go.Proofs.YtdcipaaclpedhaaGreat.Pure
