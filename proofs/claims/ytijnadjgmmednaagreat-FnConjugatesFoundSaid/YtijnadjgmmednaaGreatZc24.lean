import Derived.Test.YtijnadjgmmednaaGreatZc23
/- A part of the proof: lemmas that later parts use. -/
set_option linter.unusedVariables false
set_option linter.unusedSimpArgs false
namespace Go.Proofs.YtijnadjgmmednaaGreat.PA
open Go.RowKit Go.Proofs.YtijnadjgmmednaaGreatW.PrintWords
theorem short_loop (xs : List Int) (hx : ∀ x ∈ xs, x ≠ 0 ∧ -2 ≤ x ∧ x ≤ 2) (hn : xs.length ≤ 4) (l : List Int) (a s : Int) : ∀ (d k j : Nat), j + d = xs.length → d < k →
    spec_l1Cur_short.l0 k xs xs.length j l a s (N.tx (N.pairW (xs.take j)).1) (N.tx (N.pairW (xs.take j)).2) = some (N.tx (N.pairW xs).1, N.tx (N.pairW xs).2, a, s) := by
  intro d
  induction d with
  | zero =>
    intro k j hj hk
    obtain ⟨k, rfl⟩ : ∃ q, k = q + 1 := ⟨k - 1, by omega⟩
    simp only [spec_l1Cur_short.l0]
    rw [if_neg (by omega), List.take_of_length_le (by omega)]
  | succ d ih =>
    intro k j hj hk
    obtain ⟨k, rfl⟩ : ∃ q, k = q + 1 := ⟨k - 1, by omega⟩
    have hlt : j < xs.length := by omega
    have he : xs[j]? = some xs[j] := List.getElem?_eq_getElem hlt
    have hr : rd xs j = xs[j] := by unfold rd; rw [List.getD_eq_getElem?_getD, Int.toNat_natCast, he]; rfl
    have LT := hx _ (List.getElem_mem hlt)
    have hT : ∀ y ∈ xs.take j, y ≠ 0 ∧ -2 ≤ y ∧ y ≤ 2 := fun y hy => hx y (List.mem_of_mem_take hy)
    have pc := N.pairW_few hT
    have pl : (xs.take j).length ≤ 4 := by rw [List.length_take]; omega
    have pb : (N.pairW (xs.take j)).1.carets = (N.pairW (xs.take j)).2.carets := N.pairW_bal fun y hy => (hT y hy).1
    have lc := N.letP_carets LT.1
    have e1 : spec_wdLetter.f xs[j] = some (N.tx (N.letP xs[j]).1, N.tx (N.letP xs[j]).2) := by unfold spec_wdLetter.f; exact if_pos ⟨LT.1, by omega, by omega⟩
    have e2 : spec_prTimes.f (N.tx (N.pairW (xs.take j)).1) (N.tx (N.pairW (xs.take j)).2) (N.tx (N.letP xs[j]).1) (N.tx (N.letP xs[j]).2) = some (N.tx (N.pairW (xs.take (j + 1))).1, N.tx (N.pairW (xs.take (j + 1))).2) := by
      unfold spec_prTimes.f
      rw [N.anyT_yes pb (by omega), N.anyT_yes (by omega) (by omega)]
      rw [List.take_add_one, he, show xs.take j ++ (some xs[j]).toList = xs.take j ++ [xs[j]] from rfl, N.pairW_snoc]
    simp only [spec_l1Cur_short.l0]
    rw [if_pos (by omega), if_pos (by omega), if_pos (by omega), hr, e1]
    simp only [Option.bind_some]
    rw [e2]
    simp only [Option.bind_some]
    rw [w64 (by omega), show ((j : Int) + 1) = ((j + 1 : Nat) : Int) by omega]
    exact ih k (j + 1) (by omega) (by omega)
theorem unit_pairW : ∃ u v, spec_prUnit.f = some (u, v) ∧ u = N.tx (N.pairW []).1 ∧ v = N.tx (N.pairW []).2 := ⟨_, _, rfl, rfl, rfl⟩
theorem short_tot {l : List Int} (hl : Oct l) {m : Nat} {a s : Int} (n : Nat) (hn : n ≤ 4) (k : Nat) (hk : 10 < k) (h : Lf (m + 4 * n + 2) a) : ∃ (xs : List Int) (a' s' : Int), spec_l1Cur_short.f k l a s n = some (N.tx (N.pairW xs).1, N.tx (N.pairW xs).2, a', s') ∧ xs.length ≤ n ∧ (∀ x ∈ xs, x ≠ 0 ∧ -2 ≤ x ∧ x ≤ 2) ∧ Lf m a' := by
  obtain ⟨xs, a', s', e, hx, hxs, h'⟩ := sureWord_tot hl n (by omega) 2 (by omega) (by omega) k (by omega) (a := a) (s := s) h
  refine ⟨xs, a', s', ?_, hx, hxs, h'⟩
  obtain ⟨u, v, eu, hu, hv⟩ := unit_pairW
  unfold spec_l1Cur_short.f
  rw [eu, Option.bind_some, e, Option.bind_some]
  have h0 := short_loop xs hxs (by omega) l a' s' xs.length k 0 (by omega) (by omega)
  rw [List.take_zero] at h0
  rw [← hu, ← hv] at h0
  exact h0
theorem cjBy_eq {a b c d : ByteArray} {p q : N.Tr × N.Tr} (h1 : N.anyT 20 a b = some p) (h2 : N.anyT 20 c d = some q) : spec_cjBy.f a b c d = some (N.tx (N.conj p q).1, N.tx (N.conj p q).2) := by
  unfold spec_cjBy.f; rw [h1, h2]
theorem cjBy_some {A B : N.Tr} (h1 : A.carets = B.carets) (h2 : B.carets ≤ 8) {xs : List Int} (hx : ∀ x ∈ xs, x ≠ 0 ∧ -2 ≤ x ∧ x ≤ 2) (hn : xs.length ≤ 4) : ∃ u v, spec_cjBy.f (N.tx A) (N.tx B) (N.tx (N.pairW xs).1) (N.tx (N.pairW xs).2) = some (u, v) := by
  have pc := N.pairW_few hx
  have pb : (N.pairW xs).1.carets = (N.pairW xs).2.carets := N.pairW_bal fun y hy => (hx y hy).1
  exact ⟨_, _, cjBy_eq (N.anyT_yes h1 (by omega)) (N.anyT_yes pb (by omega))⟩
theorem drawFC_rest {l : List Int} (hl : Oct l) {a s : Int} (h : Lf 1000 a) (k : Nat) (hk : 200 < k) (x y : ByteArray) (m : Int) (b : Bool) (hb : b = true → (N.pairT x y).isSome = true) : ∃ x' y' u v m', spec_DrawFindConjugator.j0 k m b l a s x y = some (x', y', u, v, m') := by
  obtain ⟨k, rfl⟩ : ∃ q, k = q + 1 := ⟨k - 1, by omega⟩
  have hP : ∀ (a s : Int), Lf 500 a → ∃ p q a' s', spec_l1Cur_pair.f k l a s 3 = some (p, q, a', s') ∧ Lf 100 a' := fun a s h => by
    obtain ⟨p, q, a', s', e, _, _, h'⟩ := pair_tot hl (m := 100) (a := a) (s := s) 3 (by omega) k (by omega) (h.less (by omega))
    exact ⟨p, q, a', s', e, h'⟩
  simp only [spec_DrawFindConjugator.j0]
  cases b with
  | true =>
    obtain ⟨xs, a1, s1, e1, hx, hxs, h1⟩ := short_tot hl (m := 900) (a := a) (s := s) 3 (by omega) k (by omega) (h.less (by omega))
    rcases N.pairT_cases x y with ⟨A, B, rfl, rfl, c1, c2, _⟩ | ⟨_, e⟩
    · obtain ⟨u, v, e2⟩ := cjBy_some c1 c2 hxs (by omega)
      rw [if_pos (rfl : true = true), show ((3 : Int)) = ((3 : Nat) : Int) from rfl, e1]
      simp only [Option.bind_some]
      rw [e2]
      simp only [Option.bind_some, spec_prGood.f]
      split
      · exact ⟨_, _, _, _, _, rfl⟩
      · obtain ⟨p, q, a2, s2, e3, h2⟩ := hP a1 s1 (h1.less (by omega))
        obtain ⟨z, a3, s3, e4, _, h3⟩ := among_tot hl (m := 0) (a := a2) (s := s2) [0, 1, 2] (by decide) (by decide) (h2.less (by omega))
        rw [show ((3 : Nat) : Int) = 3 from rfl, e3]
        simp only [Option.bind_some]
        rw [e4]
        exact ⟨_, _, _, _, _, rfl⟩
    · have := hb rfl
      rw [e] at this
      cases this
  | false =>
    obtain ⟨p, q, a2, s2, e3, h2⟩ := hP a s (h.less (by omega))
    obtain ⟨z, a3, s3, e4, _, h3⟩ := among_tot hl (m := 0) (a := a2) (s := s2) [0, 1, 2] (by decide) (by decide) (h2.less (by omega))
    rw [if_neg (by decide), e3]
    simp only [Option.bind_some]
    rw [e4]
    exact ⟨_, _, _, _, _, rfl⟩
theorem Lf.start (m : Nat) (hm : m ≤ 1000000) : Lf m 0 := by unfold Lf; omega
theorem drawFC_tot {l : List Int} (hl : Oct l) (k : Nat) (hk : 300 < k) : ∃ x y u v m, spec_DrawFindConjugator.f k l = some (x, y, u, v, m) := by
  obtain ⟨x, y, a1, s1, e1, _, _, h1⟩ := pair_tot hl (m := 2000) (a := 0) (s := 0) 3 (by omega) k (by omega) (Lf.start _ (by omega))
  obtain ⟨z, a2, s2, e2, _, h2⟩ := among_tot hl (m := 1998) (a := a1) (s := s1) [0, 1, 2, 3, 3, 4, 5, -1] (by decide) (by decide) h1
  unfold spec_DrawFindConjugator.f
  rw [show ((3 : Int)) = ((3 : Nat) : Int) from rfl, e1]
  simp only [Option.bind_some]
  rw [show ((3 : Nat) : Int) = 3 from rfl, e2]
  simp only [Option.bind_some, spec_prGood.f]
  split
  · rename_i hg
    obtain ⟨b, a3, s3, e3, h3⟩ := one_tot hl (m := 1996) (a := a2) (s := s2) 4 (by omega) h2
    rw [e3]
    simp only [Option.bind_some]
    obtain ⟨x', y', u, v, m', e⟩ := drawFC_rest hl (s := s3) (h3.less (by omega)) k (by omega) x y z (!b) (fun _ => hg)
    exact ⟨x', y', u, v, m', e⟩
  · obtain ⟨x', y', u, v, m', e⟩ := drawFC_rest hl (s := s2) (h2.less (by omega)) k (by omega) x y z false (fun h => by cases h)
    exact ⟨x', y', u, v, m', e⟩
theorem drawCP_tot {l : List Int} (hl : Oct l) (k : Nat) (hk : 300 < k) : ∃ x y u v, spec_DrawConjugatePair.f k l = some (x, y, u, v) := by
  obtain ⟨x, y, a1, s1, e1, _, _, h1⟩ := pair_tot hl (m := 2000) (a := 0) (s := 0) 4 (by omega) k (by omega) (Lf.start _ (by omega))
  obtain ⟨u, v, a2, s2, e2, _, _, h2⟩ := pair_tot hl (m := 0) (a := a1) (s := s1) 3 (by omega) k (by omega) (h1.less (by omega))
  unfold spec_DrawConjugatePair.f
  rw [show ((4 : Int)) = ((4 : Nat) : Int) from rfl, e1]
  simp only [Option.bind_some]
  rw [show ((3 : Int)) = ((3 : Nat) : Int) from rfl, e2]
  exact ⟨_, _, _, _, rfl⟩
theorem drawLC_tot {l : List Int} (hl : Oct l) (k : Nat) (hk : 300 < k) : ∃ x y m, spec_DrawLeastConjugate.f k l = some (x, y, m) := by
  obtain ⟨x, y, a1, s1, e1, _, _, h1⟩ := pair_tot hl (m := 2000) (a := 0) (s := 0) 4 (by omega) k (by omega) (Lf.start _ (by omega))
  obtain ⟨z, a2, s2, e2, _, h2⟩ := among_tot hl (m := 0) (a := a1) (s := s1) [0, 1, 2, 2, 3, 5, -1] (by decide) (by decide) (h1.less (by omega))
  unfold spec_DrawLeastConjugate.f
  rw [show ((4 : Int)) = ((4 : Nat) : Int) from rfl, e1]
  simp only [Option.bind_some]
  rw [e2]
  exact ⟨_, _, _, rfl⟩
theorem drawCW_loop {l : List Int} (hl : Oct l) : ∀ (d k : Nat) (a s : Int) (xs : List Int), 8 - xs.length = d → xs.length ≤ 7 → 200 + d < k → Lf (1000 + 2 * d) a → ∃ x y ys, spec_DrawConjugateByWord.l0 k xs l a s = some (x, y, ys) ∧ ys.length ≤ 7 := by
  intro d
  induction d with
  | zero => intro k a s xs hd hx hk h; omega
  | succ d ih =>
    intro k a s xs hd hx hk h
    obtain ⟨k, rfl⟩ : ∃ q, k = q + 1 := ⟨k - 1, by omega⟩
    obtain ⟨r, a1, s1, e1, r0, r1, h1⟩ := pick_tot hl (m := 1000 + 2 * d) (a := a) (s := s) 2 (by omega) (by unfold Lf at *; omega)
    have r2 := r1 (by omega)
    simp only [spec_DrawConjugateByWord.l0]
    rw [e1]
    simp only [Option.bind_some]
    rw [w64 (by omega)]
    by_cases hlt : (xs.length : Int) < 6 + r
    · rw [if_pos hlt, if_pos (by omega)]
      exact ih k a1 s1 (xs ++ [1]) (by simp; omega) (by simp; omega) (by omega) h1
    · obtain ⟨u, v, a2, s2, e2, _, _, h2⟩ := pair_tot hl (m := 0) (a := a1) (s := s1) 3 (by omega) k (by omega) (h1.less (by omega))
      rw [if_neg hlt, show ((3 : Int)) = ((3 : Nat) : Int) from rfl, e2]
      exact ⟨_, _, _, rfl, hx⟩
theorem drawCW_tot {l : List Int} (hl : Oct l) (k : Nat) (hk : 300 < k) : ∃ x y ys, spec_DrawConjugateByWord.f k l = some (x, y, ys) ∧ ys.length ≤ 7 := by
  obtain ⟨xs, a1, s1, e1, hx, hxs, h1⟩ := sureWord_tot hl (m := 3000) (a := 0) (s := 0) 4 (by omega) 2 (by omega) (by omega) k (by omega) (Lf.start _ (by omega))
  obtain ⟨r, a2, s2, e2, r0, r1, h2⟩ := pick_tot hl (m := 2998) (a := a1) (s := s1) 14 (by omega) (h1.less (by omega))
  unfold spec_DrawConjugateByWord.f
  rw [show ((4 : Int)) = ((4 : Nat) : Int) from rfl, e1]
  simp only [Option.bind_some]
  rw [e2]
  simp only [Option.bind_some]
  by_cases z0 : r = 0
  · obtain ⟨z, a3, s3, e3, _, h3⟩ := among_tot hl (m := 2000) (a := a2) (s := s2) [3, 0, -3] (by decide) (by decide) (h2.less (by omega))
    obtain ⟨u, v, a4, s4, e4, _, _, h4⟩ := pair_tot hl (m := 0) (a := a3) (s := s3) 3 (by omega) k (by omega) (h3.less (by omega))
    rw [if_pos z0, e3]
    simp only [Option.bind_some]
    rw [if_pos (by omega), show ((3 : Int)) = ((3 : Nat) : Int) from rfl, e4]
    exact ⟨_, _, _, rfl, by simp; omega⟩
  · rw [if_neg z0]
    by_cases z1 : r = 1
    · rw [if_pos z1]
      exact drawCW_loop hl _ k a2 s2 xs rfl (by omega) (by omega) (h2.less (by omega))
    · obtain ⟨u, v, a4, s4, e4, _, _, h4⟩ := pair_tot hl (m := 0) (a := a2) (s := s2) 3 (by omega) k (by omega) (h2.less (by omega))
      rw [if_neg z1, show ((3 : Int)) = ((3 : Nat) : Int) from rfl, e4]
      try simp only [Option.bind_some]
      exact ⟨_, _, _, rfl, by omega⟩
end Go.Proofs.YtijnadjgmmednaaGreat.PA
namespace Go.Proofs.YtijnadjgmmednaaGreat.PA
open Go.RowKit Go.Proofs.YtijnadjgmmednaaGreatW.PrintWords
theorem oct_of {l : List Int} (h : ∀ x ∈ l, (Lit.int .u8 x).wf = true) : Oct l := fun x hx => by
  have := h x hx
  simp [Lit.wf, IntKind.min, IntKind.max, IntKind.bits, IntKind.signed] at this
  omega
theorem big_cases (l0 l1 : List Int) : ∃ b, laws_big.f l0 l1 = some b := by
  unfold laws_big.f; split <;> exact ⟨_, rfl⟩
theorem nSame_loop (xs : List Int) (hn : xs.length ≤ 1000000) : ∀ (d k j : Nat), j + d = xs.length → d < k → laws_nSame.l0 k xs xs xs.length j = some true := by
  intro d
  induction d with
  | zero =>
    intro k j hj hk
    obtain ⟨k, rfl⟩ : ∃ q, k = q + 1 := ⟨k - 1, by omega⟩
    simp only [laws_nSame.l0]
    rw [if_neg (by omega)]
  | succ d ih =>
    intro k j hj hk
    obtain ⟨k, rfl⟩ : ∃ q, k = q + 1 := ⟨k - 1, by omega⟩
    simp only [laws_nSame.l0]
    rw [if_pos (by omega), if_pos (by omega), if_pos (by omega), if_pos (by omega), if_pos trivial, w64 (by omega), show ((j : Int) + 1) = ((j + 1 : Nat) : Int) by omega]
    exact ih k (j + 1) (by omega) (by omega)
theorem nSame_self (xs : List Int) (hn : xs.length ≤ 1000000) (k : Nat) (hk : xs.length < k) : laws_nSame.f k xs xs = some true := by
  unfold laws_nSame.f
  rw [if_pos rfl]
  exact nSame_loop xs hn xs.length k 0 (by omega) hk
theorem nReduced_some {A B : N.Tr} (h1 : A.carets = B.carets) (h2 : B.carets ≤ 8) : laws_nReduced.f (N.tx A) (N.tx B) = some (N.tx (N.red (A, B)).1, N.tx (N.red (A, B)).2) := by
  unfold laws_nReduced.f impl_ReducePair.f
  rw [N.pairT_yes h1 h2]; rfl
theorem sums_some {A B : N.Tr} (h1 : A.carets = B.carets) (h2 : B.carets ≤ 8) : impl_SumsOfPair.f (N.tx A) (N.tx B) = some (N.az (A, B), - N.bz (A, B) - N.az (A, B), true) := by
  unfold impl_SumsOfPair.f
  rw [N.pairT_yes h1 h2]
  simp only
  rw [N.sums_red (p := (A, B)) h1]
theorem ifF_true {p : N.Tr × N.Tr} (h : (N.ifF p).2.2 = true) : p.1.carets ≤ 8 ∧ N.ifF p = N.okP p := by
  unfold N.ifF at *
  split at h
  · rename_i h8; exact ⟨h8, if_pos h8⟩
  · cases h
theorem red_le8 {A B : N.Tr} (h1 : A.carets = B.carets) (h2 : B.carets ≤ 8) : (N.red (A, B)).1.carets = (N.red (A, B)).2.carets ∧ (N.red (A, B)).2.carets ≤ 8 := by
  have := N.red_le (A, B)
  simp only at this
  exact ⟨N.red_same (p := (A, B)) h1, by omega⟩
theorem pow_some {xs : List Int} (hx : ∀ x ∈ xs, x ≠ 0 ∧ -2 ≤ x ∧ x ≤ 2) (hn : xs.length ≤ 6) : impl_PairOfWord.f xs = some (N.okP (N.pairW xs)) := by
  unfold impl_PairOfWord.f
  rw [if_pos ⟨fun x h => by have := hx x h; omega, by omega⟩, N.pwW_two hx hn]; rfl
theorem pairW_8 {xs : List Int} (hx : ∀ x ∈ xs, x ≠ 0 ∧ -2 ≤ x ∧ x ≤ 2) (hn : xs.length ≤ 6) : (N.pairW xs).1.carets = (N.pairW xs).2.carets ∧ (N.pairW xs).2.carets ≤ 8 := by
  have a := N.pairW_few hx
  have b : (N.pairW xs).1.carets = (N.pairW xs).2.carets := N.pairW_bal fun y hy => (hx y hy).1
  exact ⟨b, by omega⟩
theorem conj_some {A B C D : N.Tr} (h1 : A.carets = B.carets) (h2 : B.carets ≤ 8) (h3 : C.carets = D.carets) (h4 : D.carets ≤ 8) : impl_ConjugatePair.f (N.tx A) (N.tx B) (N.tx C) (N.tx D) = some (N.ifF (N.conj (A, B) (C, D))) := by
  unfold impl_ConjugatePair.f
  rw [N.pairT_yes h1 h2, N.pairT_yes h3 h4]
theorem same_refl (b : ByteArray × ByteArray × Bool) : (!(b.1.toList == b.1.toList) || (!(b.2.1.toList == b.2.1.toList))) = false := by simp
theorem firstW_some (W : Nat → List (List Int)) (P : List Int → Bool) : ∀ (k n : Nat) (w : List Int), N.firstW W P n k = some w → ∃ m, n ≤ m ∧ m < n + k ∧ w ∈ W m ∧ P w = true
  | 0, n, w, h => by simp [N.firstW] at h
  | k + 1, n, w, h => by
    simp only [N.firstW] at h
    cases hf : (W n).find? P with
    | some v =>
      rw [hf] at h
      injection h with h
      subst h
      exact ⟨n, by omega, by omega, List.mem_of_find?_eq_some hf, List.find?_some hf⟩
    | none =>
      rw [hf] at h
      obtain ⟨m, h1, h2, h3, h4⟩ := firstW_some W P k (n + 1) w h
      exact ⟨m, by omega, by omega, h3, h4⟩
theorem firstW_ne (W : Nat → List (List Int)) (P : List Int → Bool) : ∀ (k n m : Nat) (w : List Int), n ≤ m → m < n + k → w ∈ W m → P w = true → ∃ v, N.firstW W P n k = some v
  | 0, n, m, w, h1, h2, _, _ => by omega
  | k + 1, n, m, w, h1, h2, h3, h4 => by
    simp only [N.firstW]
    cases hf : (W n).find? P with
    | some v => exact ⟨v, rfl⟩
    | none =>
      by_cases e : n = m
      · subst e
        exact absurd h4 (by have := List.find?_eq_none.1 hf w h3; simpa using this)
      · exact firstW_ne W P k (n + 1) m w (by omega) (by omega) h3 h4
theorem lts_two {x : Int} (h : x ∈ N.lts) : x ≠ 0 ∧ -2 ≤ x ∧ x ≤ 2 := by
  simp [N.lts] at h; omega
theorem conjug_found {A B C D : N.Tr} (h1 : A.carets = B.carets) {n : Nat} {w : List Int} (h : N.conjugA (A, B) (N.ptx (N.red (C, D))) 0 (n + 1) = some w) : w.length ≤ n ∧ (∀ x ∈ w, x ≠ 0 ∧ -2 ≤ x ∧ x ≤ 2) ∧ N.conj (A, B) (N.pairW w) = N.red (C, D) := by
  unfold N.conjugA at h
  obtain ⟨m, _, hm, hw, hP⟩ := firstW_some _ _ _ _ _ h
  have hw' := (N.mem_allW m w).1 hw
  have hp : N.Bal (A, B) := h1
  refine ⟨by omega, fun x hx => lts_two (hw'.2 x hx), ?_⟩
  unfold N.fitsA at hP
  have := of_decide_eq_true hP
  rw [N.conjF_pairW hp (N.allW_nz hw)] at this
  exact N.ptx_inj this
theorem conjug_ex {A B C D : N.Tr} (h1 : A.carets = B.carets) {n m : Nat} {w : List Int} (hw : w ∈ N.allW m) (hm : m ≤ n) (he : N.conj (A, B) (N.pairW w) = N.red (C, D)) : N.foundF (N.conjugA (A, B) (N.ptx (N.red (C, D))) 0 (n + 1)) = true := by
  have hp : N.Bal (A, B) := h1
  have hP : N.fitsA (N.ptx (N.red (C, D))) (N.red (A, B)) w = true := by
    unfold N.fitsA
    rw [N.conjF_pairW hp (N.allW_nz hw), he]
    exact decide_eq_true rfl
  obtain ⟨v, hv⟩ := firstW_ne N.allW _ (n + 1) 0 m w (by omega) (by omega) hw hP
  unfold N.conjugA
  rw [hv]; rfl
theorem J6 (k : Nat) (s t : ByteArray) (m : Int) (r : ByteArray × ByteArray × Bool) (h : impl_LeastConjugate.f s t m = some r) : laws_FnConjugatesFound.j6 (k + 1) m r.2.2 false s t r.1 r.2.1 = some true := by
  simp only [laws_FnConjugatesFound.j6]
  rw [if_neg (by decide)]
  unfold impl_LeastConjugate.f at h
  rcases N.pairT_cases s t with ⟨A, B, rfl, rfl, h1, h2, e⟩ | ⟨g, e⟩
  · rw [e] at h
    simp only [Option.some.injEq] at h
    by_cases hm : 0 ≤ m ∧ m ≤ 4
    · rw [if_pos hm] at h
      subst h
      have hp : N.Bal (A, B) := h1
      have hA := N.least_eq (p := (A, B)) h1 m.toNat
      have hf := N.leastA_flat (A, B) (m.toNat + 1)
      have sp := N.least_spec N.ltP N.ltP_irr (fun _ _ _ => N.ltP_nt) (fun _ _ => N.ltP_asym) ((List.range (m.toNat + 1)).flatMap (N.conjsA (A, B))) (N.red (A, B))
      rw [← hf, hA] at sp
      obtain ⟨s1, s2⟩ := sp
      have hle := (N.ltP_false.1 (s2 _ (List.mem_cons_self ..))).1
      have hw : ∃ q w, q ≤ m.toNat ∧ w ∈ N.allW q ∧ N.leastR (A, B) m.toNat = N.conj (A, B) (N.pairW w) := by
        rcases List.mem_cons.1 s1 with h | h
        · refine ⟨0, [], Nat.zero_le _, by simp [N.allW], ?_⟩
          rw [h, ← N.conjF_pairW hp (fun x hx => by cases hx)]; rfl
        · simp only [List.mem_flatMap, List.mem_range, N.conjsA, List.mem_map] at h
          obtain ⟨q, hq, w, hw, he⟩ := h
          exact ⟨q, w, by omega, hw, by rw [← he, N.conjF_pairW hp (N.allW_nz hw)]⟩
      obtain ⟨q, w, hq, hw, he⟩ := hw
      have hred : N.red (N.leastR (A, B) m.toNat) = N.leastR (A, B) m.toNat := by rw [he]; exact N.red_red _
      have hbal : (N.leastR (A, B) m.toNat).1.carets = (N.leastR (A, B) m.toNat).2.carets := by rw [he]; exact hp.conj (N.pairW_bal (N.allW_nz hw))
      have r8 := red_le8 h1 h2
      have l8 : (N.leastR (A, B) m.toNat).2.carets ≤ 8 := by omega
      generalize N.leastR (A, B) m.toNat = L at *
      obtain ⟨C, D⟩ := L
      simp only at *
      have e1 : impl_AreConjugateWithin.f (N.tx A) (N.tx B) (N.tx C) (N.tx D) m = some (true, true) := by
        unfold impl_AreConjugateWithin.f
        rw [e, N.pairT_yes hbal l8]
        simp only
        rw [if_pos hm, conjug_ex (C := C) (D := D) h1 hw hq (by rw [hred, he])]
      have e2 : impl_CaretsOf.f (N.tx C) = some ((C.carets : Int), true) := by unfold impl_CaretsOf.f; rw [N.parseT_tx]; exact if_pos (by omega)
      have e3 : impl_CaretsOf.f (N.tx (N.red (A, B)).1) = some (((N.red (A, B)).1.carets : Int), true) := by unfold impl_CaretsOf.f; rw [N.parseT_tx]; exact if_pos (by omega)
      simp only [N.okP]
      rw [if_pos trivial, e1]
      simp only [Option.bind_some]
      rw [e2]
      simp only [Option.bind_some]
      rw [nReduced_some h1 h2]
      simp only [Option.bind_some]
      rw [e3]
      simp only [Option.bind_some, if_true]
      rw [decide_eq_true (by omega)]
    · rw [if_neg hm] at h
      subst h
      simp [N.noP]
  · rw [e] at h
    simp only [Option.some.injEq] at h
    subst h
    simp [N.noP]
theorem J5 {l : List Int} (hl : Oct l) (k : Nat) (hk : 400 < k) : laws_FnConjugatesFound.j5 k l = some true := by
  obtain ⟨k, rfl⟩ : ∃ q, k = q + 2 := ⟨k - 2, by omega⟩
  obtain ⟨x, y, m, e⟩ := drawLC_tot hl (k + 1) (by omega)
  obtain ⟨r, hr⟩ : ∃ r, impl_LeastConjugate.f x y m = some r := by unfold impl_LeastConjugate.f; exact ⟨_, rfl⟩
  simp only [laws_FnConjugatesFound.j5]
  rw [e]
  simp only [Option.bind_some]
  rw [hr, show spec_LeastConjugate.f = impl_LeastConjugate.f from rfl, hr]
  simp only [Option.bind_some]
  rw [if_neg (by simp), same_refl]
  exact J6 k x y m r hr
theorem cjW_conj {A B : N.Tr} (h1 : A.carets = B.carets) {xs : List Int} (hx : N.TwoL xs) : ∀ (d j : Nat) (q : N.Tr × N.Tr), j + d = xs.length → N.cjW (xs.drop j) (N.conjF (N.red (A, B)) (xs.take j)) = some q → q = N.conj (A, B) (N.pairW xs) ∧ (j < xs.length → q.1.carets ≤ 8)
  | 0, j, q, hj, h => by
    rw [List.drop_eq_nil_of_le (by omega), List.take_of_length_le (by omega)] at h
    simp only [N.cjW, Option.some.injEq] at h
    exact ⟨by rw [← h]; exact N.conjF_pairW (p := (A, B)) h1 fun x h => (hx x h).1, fun h => by omega⟩
  | d + 1, j, q, hj, h => by
    have hlt : j < xs.length := by omega
    have he : xs[j]? = some xs[j] := List.getElem?_eq_getElem hlt
    rw [N.cjW_step xs j _ he] at h
    split at h
    · cases h
    · rename_i h8
      have e : N.conj (N.conjF (N.red (A, B)) (xs.take j)) (N.letP xs[j]) = N.conjF (N.red (A, B)) (xs.take (j + 1)) := by rw [List.take_add_one, he]; exact (N.conjF_snoc _ _ _).symm
      rw [e] at h h8
      obtain ⟨a, b⟩ := cjW_conj h1 hx d (j + 1) q (by omega) h
      refine ⟨a, fun _ => ?_⟩
      by_cases hl : j + 1 < xs.length
      · exact b hl
      · have hj1 : j + 1 = xs.length := by omega
        rw [hj1, List.drop_length, List.take_length] at h
        simp only [N.cjW, Option.some.injEq] at h
        rw [hj1, List.take_length] at h8
        rw [← h]
        omega
theorem J4 {l : List Int} (hl : Oct l) (k : Nat) (hk : 500 < k) (x y : ByteArray) (w : List Int) (r : ByteArray × ByteArray × Bool) (h : impl_ConjugateByWord.f x y w = some r) : laws_FnConjugatesFound.j4 k l w r.2.2 false x y r.1 r.2.1 = some true := by
  obtain ⟨k, rfl⟩ : ∃ q, k = q + 1 := ⟨k - 1, by omega⟩
  have H5 := J5 hl k (by omega)
  simp only [laws_FnConjugatesFound.j4]
  rw [if_neg (by decide)]
  unfold impl_ConjugateByWord.f at h
  split at h
  · rcases N.pairT_cases x y with ⟨A, B, rfl, rfl, h1, h2, e⟩ | ⟨g, e⟩
    · rw [e] at h
      simp only [Option.some.injEq] at h
      by_cases hm : w.length ≤ 6 ∧ N.TwoL w
      · rw [if_pos hm] at h
        subst h
        cases hc : N.cjW w (N.red (A, B)) with
        | none => simp only [cwF, N.noP]; exact (if_neg (show ¬(false = true) by decide)).trans H5
        | some q =>
          obtain ⟨hq, hq8⟩ := cjW_conj h1 hm.2 w.length 0 q (by omega) hc
          have r8 := red_le8 h1 h2
          obtain ⟨p1, p2⟩ := pairW_8 hm.2 hm.1
          have q8 : q.1.carets ≤ 8 := by
            by_cases h0 : 0 < w.length
            · exact hq8 h0
            · obtain rfl := List.length_eq_zero_iff.1 (show w.length = 0 by omega)
              simp only [N.cjW, Option.some.injEq] at hc
              rw [← hc]; omega
          simp only [cwF, N.okP]
          rw [if_pos trivial, pow_some hm.2 hm.1]
          simp only [Option.bind_some, N.okP]
          rw [conj_some h1 h2 p1 p2, show ((N.pairW w).1, (N.pairW w).2) = N.pairW w from rfl, ← hq]
          simp only [Option.bind_some]
          rw [show N.ifF q = N.okP q from if_pos q8]
          simp only [N.okP, if_true]
          exact (if_neg (by simp)).trans H5
      · rw [if_neg hm] at h
        subst h
        simp only [N.noP]
        exact (if_neg (show ¬(false = true) by decide)).trans H5
    · rw [e] at h
      simp only [Option.some.injEq] at h
      subst h
      simp only [N.noP]
      exact (if_neg (show ¬(false = true) by decide)).trans H5
  · cases h
theorem J3 {l : List Int} (hl : Oct l) (k : Nat) (hk : 600 < k) : laws_FnConjugatesFound.j3 k l = some true := by
  obtain ⟨k, rfl⟩ : ∃ q, k = q + 1 := ⟨k - 1, by omega⟩
  obtain ⟨x, y, w, e, hw⟩ := drawCW_tot hl k (by omega)
  obtain ⟨r, hr⟩ : ∃ r, impl_ConjugateByWord.f x y w = some r := by unfold impl_ConjugateByWord.f; rw [if_pos (by omega)]; exact ⟨_, rfl⟩
  simp only [laws_FnConjugatesFound.j3]
  rw [e]
  simp only [Option.bind_some]
  rw [hr, show spec_ConjugateByWord.f = impl_ConjugateByWord.f from rfl, hr]
  simp only [Option.bind_some]
  rw [if_neg (by simp), same_refl]
  exact J4 hl k (by omega) x y w r hr
theorem J2 {l : List Int} (hl : Oct l) (k : Nat) (hk : 700 < k) (x y u v : ByteArray) (r : ByteArray × ByteArray × Bool) (h : impl_ConjugatePair.f x y u v = some r) : laws_FnConjugatesFound.j2 k l r.2.2 false x y u v r.1 r.2.1 = some true := by
  obtain ⟨k, rfl⟩ : ∃ q, k = q + 1 := ⟨k - 1, by omega⟩
  have H3 := J3 hl k (by omega)
  simp only [laws_FnConjugatesFound.j2]
  rw [if_neg (by decide)]
  by_cases hr : r.2.2 = true
  · unfold impl_ConjugatePair.f at h
    rcases N.pairT_cases x y with ⟨A, B, rfl, rfl, h1, h2, e⟩ | ⟨g, e⟩
    · rcases N.pairT_cases u v with ⟨C, D, rfl, rfl, h3, h4, e'⟩ | ⟨g, e'⟩
      · rw [e, e'] at h
        simp only [Option.some.injEq] at h
        subst h
        obtain ⟨q8, hq⟩ := ifF_true hr
        have hp : N.Bal (A, B) := h1
        have hc : N.Bal (C, D) := h3
        have hb : N.Bal (N.conj (A, B) (C, D)) := hp.conj hc
        have hb' : (N.conj (A, B) (C, D)).1.carets = (N.conj (A, B) (C, D)).2.carets := hb
        have back : N.conj (N.conj (A, B) (C, D)) (D, C) = N.red (A, B) := by
          have hd : N.Bal (D, C) := Eq.symm h3
          refine (N.red_nil (N.conj_red _ _)).symm.trans (N.red_ext (hb.conj hd) hp fun s => ?_)
          rw [N.act_conj hb hd, N.act_conj hp hc]
          have i1 : ∀ t, N.act (N.inv (D, C)) t = N.act (C, D) t := fun t => rfl
          have i2 : ∀ t, N.act (D, C) (N.act (C, D) t) = t := fun t => N.act_inv hc t
          have i3 : ∀ t, N.act (N.inv (C, D)) (N.act (C, D) t) = t := fun t => N.act_inv hc t
          rw [i1, i3, i2]
        rw [if_pos hr, hq]
        have r8 := red_le8 h1 h2
        have s1 := sums_some h1 h2
        have s2 := sums_some hb' (by omega)
        obtain ⟨z1, z2⟩ := N.ends_conj hp hc
        rw [show ((N.conj (A, B) (C, D)).1, (N.conj (A, B) (C, D)).2) = N.conj (A, B) (C, D) from rfl, z1, z2] at s2
        have iv : impl_InversePair.f (N.tx C) (N.tx D) = some (N.tx D, N.tx C, true) := by unfold impl_InversePair.f; rw [e']; rfl
        have cv := conj_some hb' (by omega) h3.symm (show C.carets ≤ 8 by omega)
        rw [show ((N.conj (A, B) (C, D)).1, (N.conj (A, B) (C, D)).2) = N.conj (A, B) (C, D) from rfl, back, show N.ifF (N.red (A, B)) = N.okP (N.red (A, B)) from if_pos (by omega)] at cv
        generalize N.conj (A, B) (C, D) = Q at *
        simp only [N.okP] at *
        rw [iv]
        simp only [Option.bind_some]
        rw [cv]
        simp only [Option.bind_some]
        rw [s1]
        simp only [Option.bind_some]
        rw [s2]
        simp only [Option.bind_some, if_true]
        rw [nReduced_some h1 h2]
        simp only [Option.bind_some]
        rw [if_neg (by simp)]
        exact H3
      · rw [e, e'] at h
        simp only [Option.some.injEq] at h
        subst h
        cases hr
    · rw [e] at h
      simp only [Option.some.injEq] at h
      subst h
      cases hr
  · rw [if_neg hr]
    exact H3
theorem J1 {l : List Int} (hl : Oct l) (k : Nat) (hk : 800 < k) : laws_FnConjugatesFound.j1 k l = some true := by
  obtain ⟨k, rfl⟩ : ∃ q, k = q + 1 := ⟨k - 1, by omega⟩
  obtain ⟨x, y, u, v, e⟩ := drawCP_tot hl k (by omega)
  obtain ⟨r, hr⟩ : ∃ r, impl_ConjugatePair.f x y u v = some r := by unfold impl_ConjugatePair.f; exact ⟨_, rfl⟩
  simp only [laws_FnConjugatesFound.j1]
  rw [e]
  simp only [Option.bind_some]
  rw [hr, show spec_ConjugatePair.f = impl_ConjugatePair.f from rfl, hr]
  simp only [Option.bind_some]
  rw [if_neg (by simp), same_refl]
  exact J2 hl k (by omega) x y u v r hr
theorem J0 {l : List Int} (hl : Oct l) (k : Nat) (hk : 900 < k) (x y u v : ByteArray) (m : Int) (w : List Int) (b : Bool) (h : impl_FindConjugator.f x y u v m = some (w, b)) : laws_FnConjugatesFound.j0 k l m w b false x y u v = some true := by
  obtain ⟨k, rfl⟩ : ∃ q, k = q + 1 := ⟨k - 1, by omega⟩
  have H1 := J1 hl k (by omega)
  simp only [laws_FnConjugatesFound.j0]
  rw [if_neg (by decide)]
  by_cases hb : b = true
  · subst hb
    unfold impl_FindConjugator.f at h
    rcases N.pairT_cases x y with ⟨A, B, rfl, rfl, h1, h2, e⟩ | ⟨g, e⟩
    · rcases N.pairT_cases u v with ⟨C, D, rfl, rfl, h3, h4, e'⟩ | ⟨g, e'⟩
      · rw [e, e'] at h
        simp only [Option.some.injEq] at h
        by_cases hm : 0 ≤ m ∧ m ≤ 4
        · rw [if_pos hm] at h
          cases hf : N.conjugA (A, B) (N.ptx (N.red (C, D))) 0 (m.toNat + 1) with
          | none => rw [hf] at h; simp [foundR] at h
          | some w' =>
            rw [hf] at h
            simp only [foundR, Prod.mk.injEq, and_true] at h
            subst h
            obtain ⟨f1, f2, f3⟩ := conjug_found h1 hf
            obtain ⟨p1, p2⟩ := pairW_8 f2 (by omega)
            have r8 := red_le8 h3 h4
            have hp : N.Bal (A, B) := h1
            have hc : N.Bal (C, D) := h3
            have cv := conj_some h1 h2 p1 p2
            rw [show ((N.pairW w').1, (N.pairW w').2) = N.pairW w' from rfl, f3, show N.ifF (N.red (C, D)) = N.okP (N.red (C, D)) from if_pos (by omega)] at cv
            have pw := pow_some f2 (show w'.length ≤ 6 by omega)
            obtain ⟨z1, z2⟩ := N.ends_conj hp (q := N.pairW w') p1
            rw [f3, (N.ends_red hc).1] at z1
            rw [f3, (N.ends_red hc).2] at z2
            have s1 := sums_some h1 h2
            have s2 := sums_some h3 h4
            rw [z1, z2] at s2
            simp only [N.okP] at *
            rw [if_pos trivial, pw]
            simp only [Option.bind_some]
            rw [cv]
            simp only [Option.bind_some]
            rw [s1]
            simp only [Option.bind_some]
            rw [s2]
            simp only [Option.bind_some]
            rw [if_neg (by omega)]
            simp only [if_true]
            rw [nReduced_some h3 h4]
            simp only [Option.bind_some]
            rw [if_neg (by simp)]
            exact H1
        · rw [if_neg hm] at h; simp at h
      · rw [e, e'] at h; simp at h
    · rw [e] at h; simp at h
  · rw [if_neg hb]
    exact H1
theorem find_are {x y u v : ByteArray} {m : Int} {w : List Int} {ok are one : Bool} (h : impl_FindConjugator.f x y u v m = some (w, ok)) (h' : impl_AreConjugateWithin.f x y u v m = some (are, one)) : (one = true → are = ok) ∧ (one = false → ok = false) ∧ w.length ≤ 100 := by
  unfold impl_FindConjugator.f at h
  unfold impl_AreConjugateWithin.f at h'
  rcases N.pairT_cases x y with ⟨A, B, rfl, rfl, h1, h2, e⟩ | ⟨g, e⟩
  · rcases N.pairT_cases u v with ⟨C, D, rfl, rfl, h3, h4, e'⟩ | ⟨g, e'⟩
    · rw [e, e'] at h h'
      simp only [Option.some.injEq] at h h'
      by_cases hm : 0 ≤ m ∧ m ≤ 4
      · rw [if_pos hm] at h h'
        simp only [Prod.mk.injEq] at h'
        obtain ⟨rfl, rfl⟩ := h'
        cases hf : N.conjugA (A, B) (N.ptx (N.red (C, D))) 0 (m.toNat + 1) with
        | none =>
          rw [hf] at h
          simp only [foundR, Prod.mk.injEq] at h
          obtain ⟨rfl, rfl⟩ := h
          exact ⟨fun _ => rfl, fun _ => rfl, by simp⟩
        | some w' =>
          have := (conjug_found h1 hf).1
          rw [hf] at h
          simp only [foundR, Prod.mk.injEq] at h
          obtain ⟨rfl, rfl⟩ := h
          exact ⟨fun _ => rfl, fun h => (by cases h), by omega⟩
      · rw [if_neg hm] at h h'
        simp only [Prod.mk.injEq] at h h'
        obtain ⟨rfl, rfl⟩ := h
        obtain ⟨rfl, rfl⟩ := h'
        exact ⟨fun h => (by cases h), fun _ => rfl, by simp⟩
    · rw [e, e'] at h h'
      simp only [Option.some.injEq, Prod.mk.injEq] at h h'
      obtain ⟨rfl, rfl⟩ := h
      obtain ⟨rfl, rfl⟩ := h'
      exact ⟨fun h => (by cases h), fun _ => rfl, by simp⟩
  · rw [e] at h h'
    simp only [Option.some.injEq, Prod.mk.injEq] at h h'
    obtain ⟨rfl, rfl⟩ := h
    obtain ⟨rfl, rfl⟩ := h'
    exact ⟨fun h => (by cases h), fun _ => rfl, by simp⟩
end Go.Proofs.YtijnadjgmmednaaGreat.PA
namespace Go.Proofs.YtijnadjgmmednaaGreat.Pure
open Go.RowKit
theorem FnConjugatesFound : PA.laws_FnConjugatesFound.Pure := by
  intro l0 l1 _ _ hw0 _ _ hw1
  have hl0 := PA.oct_of hw0
  have hl1 := PA.oct_of hw1
  refine ⟨2000, ?_⟩
  unfold PA.laws_FnConjugatesFound.f
  obtain ⟨b, hb⟩ := PA.big_cases l0 l1
  rw [hb]
  simp only [Option.bind_some]
  cases b with
  | true => rfl
  | false =>
    rw [if_neg (by decide)]
    obtain ⟨x, y, u, v, m, e⟩ := PA.drawFC_tot hl0 2000 (by omega)
    rw [e]
    simp only [Option.bind_some]
    obtain ⟨⟨w, ok⟩, hf⟩ : ∃ r, PA.impl_FindConjugator.f x y u v m = some r := by unfold PA.impl_FindConjugator.f; exact ⟨_, rfl⟩
    obtain ⟨⟨are, one⟩, ha⟩ : ∃ r, PA.impl_AreConjugateWithin.f x y u v m = some r := by unfold PA.impl_AreConjugateWithin.f; exact ⟨_, rfl⟩
    obtain ⟨f1, f2, f3⟩ := PA.find_are hf ha
    have H0 := PA.J0 hl1 2000 (by omega) x y u v m w ok hf
    rw [hf, show PA.spec_FindConjugator.f = PA.impl_FindConjugator.f from rfl, hf]
    simp only [Option.bind_some]
    rw [ha, show PA.spec_AreConjugateWithin.f = PA.impl_AreConjugateWithin.f from rfl, ha]
    simp only [Option.bind_some]
    rw [if_neg (by simp), PA.nSame_self w (by omega) 2000 (by omega)]
    simp only [Option.bind_some]
    rw [if_pos trivial, if_neg (by simp), if_neg (by simp)]
    cases one with
    | true =>
      obtain rfl := f1 rfl
      rw [if_pos (rfl : true = true), if_neg (by simp)]
      exact H0
    | false =>
      obtain rfl := f2 rfl
      rw [if_neg (by decide)]
      exact H0
end Go.Proofs.YtijnadjgmmednaaGreat.Pure
