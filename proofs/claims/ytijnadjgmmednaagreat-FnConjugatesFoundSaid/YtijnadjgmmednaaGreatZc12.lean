import Derived.OwnWalk
import Derived.Test.YtijnadjgmmednaaGreatZc9
/- A part of the proof: lemmas that later parts use. -/
set_option linter.unusedVariables false
set_option linter.unusedSimpArgs false
namespace Go.Proofs.YtijnadjgmmednaaGreat.N
open Go.RowKit
def pwW : List Int → Tr × Tr → Option (Tr × Tr)
  | [], p => some p
  | n :: l, p => if 8 < (mul p (letP n)).1.carets then none else pwW l (mul p (letP n))
theorem pwW_step (xs : List Int) (j : Nat) (x : Int) (hx : xs[j]? = some x) (p : Tr × Tr) : pwW (xs.drop j) p = if 8 < (mul p (letP x)).1.carets then none else pwW (xs.drop (j + 1)) (mul p (letP x)) := by
  obtain ⟨h1, h2⟩ := List.getElem?_eq_some_iff.1 hx
  rw [List.drop_eq_getElem_cons h1, h2]; rfl
def SevL (xs : List Int) : Prop := ∀ x ∈ xs, x ≠ 0 ∧ -7 ≤ x ∧ x ≤ 7
def WordL (xs : List Int) : Prop := ∀ x ∈ xs, x ≠ 0 ∧ -21 ≤ x ∧ x ≤ 21
instance (xs : List Int) : Decidable (SevL xs) := by unfold SevL; infer_instance
instance (xs : List Int) : Decidable (WordL xs) := by unfold WordL; infer_instance
def PowOut (p : Tr × Tr) (w : World) (e : Ending) (w' : World) : Prop := ∃ pa pb, e = .returned (.tuple #[.agg #[.pointer pa, .pointer pb], .bool true]) ∧ Rep w' p.1 pa ∧ Rep w' p.2 pb ∧ Ext w w'
def wordB (xs : List Int) : Bool := decide (WordL xs ∧ xs.length ≤ 20)
def letB (n : Int) : Bool := decide (n ≠ 0 ∧ -21 ≤ n ∧ n ≤ 21)
theorem isLetter_calls (n : Int) (w : World) : Calls Tryz.prog 74 #[.int .i64 n] w fun e w' => e = .returned (.bool (letB n)) ∧ w = w' := by
  by_cases h0 : n = 0
  · have hd : Hid (letB n = false) := decide_eq_false (by omega)
    subst h0
    go_enter Tryz.func74, Tryz.ntmps74
    go_wp2_with fail
    go_ret
    exact ⟨by rw [hd.out]; rfl, rfl⟩
  · have t0 : (n == 0) = false := by rw [beq_eq_false_iff_ne]; exact h0
    have t1 : (n != 0) = true := by rw [bne_iff_ne]; exact h0
    by_cases h1 : -21 ≤ n
    · by_cases h2 : n ≤ 21
      · have hd : Hid (letB n = true) := decide_eq_true ⟨h0, h1, h2⟩
        clear h0
        go_enter Tryz.func74, Tryz.ntmps74
        go_wp2_with fail
        go_ret
        exact ⟨by rw [hd.out]; rfl, rfl⟩
      · have hd : Hid (letB n = false) := decide_eq_false (by omega)
        clear h0
        go_enter Tryz.func74, Tryz.ntmps74
        go_wp2_with fail
        go_ret
        exact ⟨by rw [hd.out]; rfl, rfl⟩
    · have hd : Hid (letB n = false) := decide_eq_false (by omega)
      have h1' : n < -21 := by omega
      clear h0
      go_enter Tryz.func74, Tryz.ntmps74
      go_wp2_with fail
      go_ret
      exact ⟨by rw [hd.out]; rfl, rfl⟩
theorem IsWord_calls (xs : List Int) (hl : xs.length < 1000000000) (v : Value) (w : World) (hv : Reads0 w v (ints xs)) :
    Calls Tryz.prog 36 #[v] w fun e w' => e = .returned (.bool (wordB xs)) ∧ w = w' := by
  obtain ⟨A, c, rfl, _, rd⟩ := hv
  rw [ints_length] at *
  have RD := Lib.hid rd
  clear rd
  go_enter Tryz.func36, Tryz.ntmps36
  go_wp2_with fail
  go_loop [7] (fun i => ∃ k : Nat, k ≤ xs.length ∧ i = .int .i64 k ∧ Hid (WordL xs ↔ WordL (xs.drop k))) (fun i => xs.length - (intOf i).toNat)
  case atStart => exact ⟨0, Nat.zero_le _, rfl, Iff.rfl⟩
  case round =>
    obtain ⟨k, hk, rfl, HI⟩ := hrel
    by_cases hlt : k < xs.length
    · obtain ⟨ad, rfl, ca⟩ := RD.out (by omega)
      have hx : xs[k]? = some xs[k] := List.getElem?_eq_getElem hlt
      have c1 := ca k _ (ints_get xs k hlt)
      have h0 : (0 : Int) ≤ k := by omega
      have h1 : (k : Int) < xs.length := by omega
      clear ca
      generalize xs[k] = x at *
      have CI := isLetter_calls x w
      by_cases g : x ≠ 0 ∧ -21 ≤ x ∧ x ≤ 21
      · have HE : Hid (WordL xs ↔ WordL (xs.drop (k + 1))) := all_step hx g HI.out
        rw [show letB x = true from decide_eq_true g] at CI
        have CI := Lib.hid CI
        clear hx g
        go_wp2_with fail
        refine CI.out.mono ?_
        rintro e w1 ⟨rfl, rfl⟩
        go_wp2_with fail
        exact ⟨⟨k + 1, by omega, by go_num, HE.out⟩, by simp [intOf]; omega⟩
      · have HE : Hid (wordB xs = false) := decide_eq_false (fun h => g (h.1 x (List.mem_of_getElem? hx)))
        rw [show letB x = false from decide_eq_false g] at CI
        have CI := Lib.hid CI
        clear hx g
        go_wp2_with fail
        refine CI.out.mono ?_
        rintro e w1 ⟨rfl, rfl⟩
        go_wp2_with fail
        go_ret
        exact ⟨by rw [HE.out]; rfl, rfl⟩
    · have h1 : (xs.length : Int) ≤ k := by omega
      have HW := all_end (by omega) HI.out
      by_cases h20 : xs.length ≤ 20
      · have HE : Hid (wordB xs = true) := decide_eq_true ⟨HW, h20⟩
        have h20' : (xs.length : Int) ≤ 20 := by omega
        clear HW
        go_wp2_with fail
        go_ret
        exact ⟨by rw [HE.out]; rfl, rfl⟩
      · have HE : Hid (wordB xs = false) := decide_eq_false (fun h => h20 h.2)
        have h20' : ¬ (xs.length : Int) ≤ 20 := by omega
        clear HW
        go_wp2_with fail
        go_ret
        exact ⟨by rw [HE.out]; rfl, rfl⟩
theorem SevL.dec {xs : List Int} {j : Nat} {x : Int} (h : SevL xs) (hx : xs[j]? = some x) : x ≠ 0 ∧ -7 ≤ x ∧ x ≤ 7 := h x (List.mem_of_getElem? hx)
set_option maxHeartbeats 6400000 in
set_option maxRecDepth 100000 in
theorem pow_yes (xs : List Int) (hl : xs.length ≤ 20) (hT : SevL xs) (p : Tr × Tr) (hp : pwW xs one = some p) (v : Value) (w : World) (hv : Reads0 w v (ints xs)) :
    Calls Tryz.prog 37 #[v] w (PowOut p w) := by
  have X0 := (Ext.refl w).alloc (.cells #[.pointer none, .pointer none] 62)
  have T0 := Two.new w (.pointer none) (.pointer none) 62 rfl
  have x1 := (Ext.refl (w.alloc (.cells #[.pointer none, .pointer none] 62))).alloc (.cells #[.pointer none, .pointer none] 62)
  have S0 : (w.alloc (.cells #[.pointer none, .pointer none] 62)).heap.size = w.heap.size + 1 := Array.size_push _
  have HB := heap_alloc_new (w.alloc (.cells #[.pointer none, .pointer none] 62)) (.cells #[.pointer none, .pointer none] 62)
  rw [S0] at HB
  have HB := Lib.hid HB
  have X2 := Lib.hid (X0.trans x1)
  have T1 := Lib.hid (T0.ext x1)
  have V := Lib.hid (hv.ext X2.out)
  have V0 := Lib.hid hv
  have HT := Lib.hid hT
  have HP := Lib.hid hp
  obtain ⟨AA, cc, rfl, _, _⟩ := hv
  rw [ints_length] at *
  have hl' : (xs.length : Int) ≤ 20 := by omega
  clear hT hp X0 T0 x1 S0
  go_enter Tryz.func37, Tryz.ntmps37
  go_wp2_with fail
  generalize (w.alloc (.cells #[.pointer none, .pointer none] 62)).alloc (.cells #[.pointer none, .pointer none] 62) = W at *
  go_loop [11] (fun i => ∃ k : Nat, k ≤ xs.length ∧ i = .int .i64 k) (fun i => xs.length - (intOf i).toNat)
  case atStart => exact ⟨0, Nat.zero_le _, rfl⟩
  case round =>
    obtain ⟨k, hk, rfl⟩ := hrel
    by_cases hlt : k < xs.length
    · have hx : xs[k]? = some xs[k] := List.getElem?_eq_getElem hlt
      obtain ⟨A1, c1, e1, _, rd⟩ := V.out
      rw [ints_length] at *
      injection e1 with e1 _ e3
      subst e1 e3
      obtain ⟨ad, rfl, ca⟩ := rd (by omega)
      have c2 := ca k _ (ints_get xs k hlt)
      have h0 : (0 : Int) ≤ k := by omega
      have h1 : (k : Int) < xs.length := by omega
      obtain ⟨LT0, LT1, LT2⟩ := HT.out.dec hx
      have CL := Lib.hid (fun W => size_calls xs[k] ⟨by omega, by omega⟩ W)
      have n0 : (xs[k].natAbs : Int) ≤ 7 := by omega
      generalize xs[k] = x at *
      generalize x.natAbs = m at *
      clear rd ca hx
      go_wp2_with fail
      refine (CL.out _).mono ?_
      rintro e w5 ⟨rfl, rfl⟩
      go_wp2_with fail
      exact ⟨⟨k + 1, by omega, by go_num⟩, by simp [intOf]; omega⟩
    · have h1 : (xs.length : Int) ≤ k := by omega
      go_wp2_with fail
      go_loopw [22] (fun i wr => ∃ (j : Nat) (C D : Tr) (q1 q2 : Option Addr), j ≤ xs.length ∧ i = .int .i64 j ∧ Hid (C.carets = D.carets ∧ D.carets ≤ 8) ∧ Hid (pwW (xs.drop j) (C, D) = some p) ∧ Hid (wr.heap[w.heap.size + 1]? = some (.cells #[.pointer q1, .pointer q2] 62)) ∧ Hid (Two wr w.heap.size 62) ∧ Hid (Rep wr C q1) ∧ Hid (Rep wr D q2) ∧ Hid (Ext w wr)) (fun i _ => xs.length - (intOf i).toNat)
      case atStart => exact ⟨0, .leaf, .leaf, none, none, Nat.zero_le _, rfl, ⟨rfl, by decide⟩, HP.out, HB.out, T1.out, rfl, rfl, X2.out⟩
      case round =>
        clear HB T1
        obtain ⟨j, C, D, q1, q2, hj, rfl, HS, HC, HB, HT1, HR1, HR2, HX⟩ := hrel
        obtain ⟨d0, d1⟩ := cells_of HB.out
        by_cases hlt : j < xs.length
        · have hx : xs[j]? = some xs[j] := List.getElem?_eq_getElem hlt
          obtain ⟨A1, c1, e1, _, rd⟩ := V0.out.ext HX.out
          rw [ints_length] at *
          injection e1 with e1 _ e3
          subst e1 e3
          obtain ⟨ad, rfl, ca⟩ := rd (by omega)
          have c2 := ca j _ (ints_get xs j hlt)
          have h0 : (0 : Int) ≤ j := by omega
          have h1 : (j : Int) < xs.length := by omega
          have LT := HT.out.dec hx
          have ST := Lib.hid (pwW_step xs j _ hx (C, D))
          have CL := Lib.hid (fun W => letter_calls xs[j] ⟨LT.1, by omega, by omega⟩ W)
          have LC := letP_carets LT.1
          obtain ⟨m1, m2⟩ := mul_carets (p := (C, D)) (q := letP xs[j]) HS.out.1 (by omega)
          have CC := Lib.hid (fun l1 l2 W (h : Ext wr W) (g1 : Rep W (letP xs[j]).1 l1) (g2 : Rep W (letP xs[j]).2 l2) => times_calls C D (letP xs[j]).1 (letP xs[j]).2 HS.out.1 (by omega) (by have := HS.out; omega) (by omega) q1 q2 l1 l2 W (HR1.out.ext h) (HR2.out.ext h) g1 g2)
          rw [show ((letP xs[j]).1, (letP xs[j]).2) = letP xs[j] from rfl] at CC
          have M := Lib.hid (And.intro m1 m2)
          have MB : Hid ((mul (C, D) (letP xs[j])).2.carets < 100) := by show _ < _; simp only at m2; have := HS.out; omega
          generalize mul (C, D) (letP xs[j]) = np at *
          generalize xs[j] = x at *
          generalize (letP x).1 = L1 at *
          generalize (letP x).2 = L2 at *
          clear rd ca hx LT LC m1 m2
          have TB : Hid (Two wr (w.heap.size + 1) 62) := ⟨_, _, HB.out⟩
          go_wp2_with fail
          rw [show Op.load 62 (Operand.tmp 4) = shy (Op.load 62 (Operand.tmp 4)) from rfl]
          go_region_held3 (fun w' => Ext w w')
            (first | with_reducible exact HX.out.drew | with_reducible exact HX.out.trans x2 | with_reducible exact HX.out.trans x3 | exact (HX.out.trans x3).set2 (g := w.heap.size + 1) (by omega) _ _ | fail)
            (first
              | (go_at_call 51; refine (CL.out _).mono ?_; rintro e w5 ⟨l1, l2, rfl, rl1, rl2, hx2⟩; have x2 : Ext wr w5 := (Ext.refl wr).drew.trans hx2; have d0' := x2.cell d0; have d1' := x2.cell d1)
              | (go_at_call 76; refine (CC.out _ _ _ x2 rl1 rl2).mono ?_; rintro e w6 ⟨z1, z2, rfl, rz1, rz2, hx3⟩; have x3 := x2.trans hx3; obtain ⟨u, v, k0, k1, f0, f1⟩ := (TB.out.ext x3).facts)
              | fail)
          all_goals
            have TX := TB.out.ext x3
            have HH := Lib.hid (set2_heap TX (.pointer z1) (.pointer z2))
            have Q1 := Lib.hid (Rep.set2 TX (by decide) (.pointer z1) (.pointer z2) rz1)
            have Q2 := Lib.hid (Rep.set2 TX (by decide) (.pointer z1) (.pointer z2) rz2)
            have T1 := Lib.hid ((HT1.out.ext x3).far (g := w.heap.size + 1) (by omega) (.pointer z1) (.pointer z2))
            have XX := Lib.hid ((HX.out.trans x3).set2 (g := w.heap.size + 1) (by omega) (.pointer z1) (.pointer z2))
            change Exit.then _ _ _ _ (N.set2 w6 (w.heap.size + 1) (.pointer z1) (.pointer z2))
            obtain ⟨d0, d1⟩ := cells_of HH.out
            clear k0 k1 f0 f1 TX x3 x2 hx2 hx3 rz1 rz2 rl1 rl2 d0' d1'
            generalize N.set2 w6 (w.heap.size + 1) (.pointer z1) (.pointer z2) = w7 at *
            have CA := Lib.hid (carets_calls np.1 z1 w7 (by have := M.out.1; have := MB.out; omega) Q1.out)
            have bn : (0 : Int) ≤ np.1.carets := by omega
            have h8 : ¬ 8 < np.1.carets := by intro h; have e := HC.out; rw [ST.out, if_pos h] at e; cases e
            have EV : Hid (pwW (xs.drop (j + 1)) (np.1, np.2) = some p) := by have e := HC.out; rw [ST.out, if_neg h8] at e; exact e
            have h8' : ¬ (8 : Int) < np.1.carets := by omega
            go_wp2_with fail
            refine CA.out.mono ?_
            rintro e w8 ⟨rfl, n8, rfl⟩
            have xd : Ext w7 (w7.drewN n8) := (Ext.refl _).drewN _
            have XX := Lib.hid (XX.out.trans xd)
            have T1 := Lib.hid (T1.out.ext xd)
            have HH := Lib.hid (xd.at HH.out)
            have Q1 := Lib.hid (Q1.out.ext xd)
            have Q2 := Lib.hid (Q2.out.ext xd)
            clear xd d0 d1
            generalize w7.drewN n8 = w8 at *
            go_wp2_with fail
            exact ⟨⟨j + 1, np.1, np.2, z1, z2, by omega, by go_num, ⟨M.out.1, by have := M.out.1; omega⟩, EV.out, HH.out, T1.out, Q1.out, Q2.out, XX.out⟩, by simp [intOf]; omega⟩
        · have h1 : (xs.length : Int) ≤ j := by omega
          have EV : p = (C, D) := by have e := HC.out; rw [List.drop_eq_nil_of_le (by omega)] at e; exact (Option.some.inj e).symm
          subst EV
          obtain ⟨u, v, k0, k1, f0, f1⟩ := HT1.out.facts
          have HH := set2_heap HT1.out (.pointer q1) (.pointer q2)
          have XX := Lib.hid (HX.out.set2 (g := w.heap.size) (Nat.le_refl _) (.pointer q1) (.pointer q2))
          have Q1 := Lib.hid (Rep.set2 HT1.out (by decide) (.pointer q1) (.pointer q2) HR1.out)
          have Q2 := Lib.hid (Rep.set2 HT1.out (by decide) (.pointer q1) (.pointer q2) HR2.out)
          obtain ⟨hc0, hc1⟩ := cells_of HH
          clear HH
          go_wp2_with fail
          change bodyPost _ _ _ _ _ (N.set2 wr w.heap.size (.pointer q1) (.pointer q2))
          generalize N.set2 wr w.heap.size (.pointer q1) (.pointer q2) = W3 at *
          exact bodyPost_ret (v := .tuple #[.agg #[.pointer q1, .pointer q2], .bool true]) (by simp [results, Tryz.results37, go_sem, hc0, hc1]) rfl ⟨q1, q2, rfl, Q1.out, Q2.out, XX.out⟩
theorem pwW_bal : ∀ (xs : List Int) (p q : Tr × Tr), (∀ x ∈ xs, x ≠ 0) → Bal p → p.2.carets ≤ 8 → pwW xs p = some q → q.1.carets = q.2.carets ∧ q.2.carets ≤ 8
  | [], p, q, _, hb, h8, h => by simp only [pwW, Option.some.injEq] at h; subst h; exact ⟨hb, h8⟩
  | x :: l, p, q, hz, hb, h8, h => by
    simp only [pwW] at h
    split at h
    · cases h
    · rename_i hn
      have hm : Bal (mul p (letP x)) := hb.mul (letP_bal (hz x (List.mem_cons_self ..)))
      exact pwW_bal l _ q (fun y hy => hz y (List.mem_cons_of_mem _ hy)) hm (by unfold Bal at hm; omega) h
set_option maxHeartbeats 3200000 in
set_option maxRecDepth 100000 in
theorem PairOfWord_yes (xs : List Int) (hl : xs.length ≤ 20) (hT : SevL xs) (p : Tr × Tr) (hp : pwW xs one = some p) (v : Value) (w : World) (hv : Reads0 w v (ints xs)) :
    Calls Tryz.prog 11 #[v] w fun e w' => e = .returned (.tuple #[.agg #[.string (tx p.1), .string (tx p.2)], .bool true]) ∧ Ext w w' := by
  have X2 := Lib.hid ((Ext.refl w).alloc (.cells #[.string ⟨#[]⟩, .string ⟨#[]⟩] 25))
  have t1 := Two.new w (.string ⟨#[]⟩) (.string ⟨#[]⟩) 25 rfl
  have C1 := Lib.hid (fun W (h : Ext w W) => IsWord_calls xs (by omega) v W (hv.ext h))
  rw [show wordB xs = true from decide_eq_true ⟨fun x hx => by have := hT x hx; omega, hl⟩] at C1
  have C2 := Lib.hid (fun W (h : Ext w W) => pow_yes xs hl hT p hp v W (hv.ext h))
  obtain ⟨b1, b2⟩ := pwW_bal xs one p (fun x hx => (hT x hx).1) Bal.one (by decide) hp
  obtain ⟨AA, cc, rfl, _, _⟩ := hv
  rw [ints_length] at *
  have C3 := Lib.hid (fun pa pb W => plain_calls p.1 p.2 (by omega) (by omega) pa pb W)
  have TL := Lib.hid t1
  clear hT hp b1 b2 t1
  generalize tx p.1 = a at *
  generalize tx p.2 = b at *
  go_enter Tryz.func11, Tryz.ntmps11
  go_wp2_with fail
  generalize w.alloc (.cells #[.string ⟨#[]⟩, .string ⟨#[]⟩] 25) = W at *
  refine (C1.out _ X2.out).mono ?_
  rintro e w1 ⟨rfl, rfl⟩
  go_wp2_with fail
  refine (C2.out _ X2.out).mono ?_
  rintro e w1 ⟨pa, pb, rfl, rA, rB, x1⟩
  have xa := (Ext.refl w1).alloc (.cells #[.pointer pa, .pointer pb] 62)
  have RA := Lib.hid (rA.ext xa)
  have RB := Lib.hid (rB.ext xa)
  have X1 := Lib.hid (X2.out.trans (x1.trans xa))
  have T1 := Lib.hid (TL.out.ext (x1.trans xa))
  obtain ⟨d0, d1⟩ := cells_of (heap_alloc_new w1 (.cells #[.pointer pa, .pointer pb] 62))
  clear rA rB x1 xa
  go_wp2_with fail
  generalize w1.alloc (.cells #[.pointer pa, .pointer pb] 62) = W1 at *
  refine (C3.out pa pb _ RA.out RB.out).mono ?_
  rintro e w5 ⟨rfl, x5⟩
  have T1 := T1.out.ext x5
  obtain ⟨u, v, k0, k1, f0, f1⟩ := T1.facts
  have T1 := Lib.hid T1
  have X5 := Lib.hid (X1.out.trans x5)
  clear x5 d0 d1
  go_wp2_with fail
  have HH := set2_heap T1.out (.string a) (.string b)
  have XX := X5.out.set2 (g := w.heap.size) (Nat.le_refl _) (.string a) (.string b)
  change bodyPost _ _ _ _ _ (N.set2 w5 w.heap.size (.string a) (.string b))
  obtain ⟨hc0, hc1⟩ := cells_of HH
  generalize N.set2 w5 w.heap.size (.string a) (.string b) = W3 at *
  exact bodyPost_ret (v := .tuple #[.agg #[.string a, .string b], .bool true]) (by simp [results, Tryz.results11, go_sem, hc0, hc1]) rfl ⟨rfl, XX⟩
end Go.Proofs.YtijnadjgmmednaaGreat.N
namespace Go.Proofs.YtijnadjgmmednaaGreat.N
theorem act_self (F : Tr) (s : Str) : act (F, F) s = s := adr_find F s
def Rep2 (p : Tr × Tr) (m : Nat) : Prop := ∃ A l a b, Bal (A, .node l (.node a b)) ∧ (Tr.node l (.node a b)).carets ≤ m ∧ ∀ s, act (A, .node l (.node a b)) s = act p s
theorem Rep2.one : Rep2 one 2 := ⟨.node .leaf (.node .leaf .leaf), .leaf, .leaf, .leaf, rfl, by decide, fun s => by rw [act_self]; exact (act_one s).symm⟩
theorem Rep2.of {p : Tr × Tr} {q : Tr × Tr} {m : Nat} (hq : Bal q) (hs : ∃ l a b, q.2 = .node l (.node a b)) (hc : q.2.carets ≤ m) (ha : ∀ s, act q s = act p s) : Rep2 p m := by
  obtain ⟨l, a, b, e⟩ := hs
  refine ⟨q.1, l, a, b, ?_, ?_, ?_⟩
  · rw [← e]; exact hq
  · rw [← e]; exact hc
  · rw [← e]; exact ha
theorem join_caret (l : Tr) : (join l (.node .leaf .leaf)).carets ≤ l.carets + 1 := by
  cases l with
  | leaf => simp [join, Tr.carets]
  | node a b => cases a <;> cases b <;> simp [join, Tr.carets]
theorem join_leaf (l : Tr) : join l .leaf = l := by cases l <;> rfl
theorem Rep2.times {p : Tr × Tr} {m : Nat} (h : Rep2 p m) (hp : Bal p) {F G : Tr} (hq : Bal (F, G)) (hj : ∀ l a b, (join (.node l (.node a b)) F).carets ≤ (Tr.node l (.node a b)).carets + 1) (hG : ∃ x y z, G = .node x (.node y z)) : Rep2 (mul p (F, G)) (m + 1) := by
  obtain ⟨A, l, a, b, hb, hc, ha⟩ := h
  obtain ⟨m1, m2⟩ := mul0_carets (p := (A, .node l (.node a b))) (q := (F, G)) hb hq
  refine Rep2.of (q := mul0 (A, .node l (.node a b)) (F, G)) (by unfold Bal; omega) ?_ ?_ (fun s => by rw [act_mul0 _ _ hb hq, ha, act_mul hp hq])
  · obtain ⟨x, y, z, rfl⟩ := hG
    exact ⟨_, _, _, rfl⟩
  · rw [m2]; have := hj l a b; simp only at this ⊢; omega
theorem letP_1 : letP 1 = (.node (.node .leaf .leaf) .leaf, .node .leaf (.node .leaf .leaf)) := rfl
theorem letP_m1 : letP (-1) = (.node .leaf (.node .leaf .leaf), .node (.node .leaf .leaf) .leaf) := rfl
theorem letP_2 : letP 2 = (.node .leaf (.node (.node .leaf .leaf) .leaf), .node .leaf (.node .leaf (.node .leaf .leaf))) := rfl
theorem letP_m2 : letP (-2) = (.node .leaf (.node .leaf (.node .leaf .leaf)), .node .leaf (.node (.node .leaf .leaf) .leaf)) := rfl
theorem Rep2.letter {p : Tr × Tr} {m : Nat} (h : Rep2 p m) (hp : Bal p) {x : Int} (hx : x ≠ 0 ∧ -2 ≤ x ∧ x ≤ 2) : Rep2 (mul p (letP x)) (m + 1) := by
  have hx' : x = 1 ∨ x = -1 ∨ x = 2 ∨ x = -2 := by omega
  rcases hx' with rfl | rfl | rfl | rfl
  · rw [letP_1]
    refine h.times hp rfl (fun l a b => ?_) ⟨_, _, _, rfl⟩
    have := join_caret l
    simp only [join, join_leaf, Tr.carets]
    omega
  · rw [letP_m1]
    obtain ⟨A, l, a, b, hb, hc, ha⟩ := h
    have hq : Bal ((.node .leaf (.node .leaf .leaf), .node (.node .leaf .leaf) .leaf) : Tr × Tr) := rfl
    obtain ⟨m1, m2⟩ := mul0_carets (p := (A, .node l (.node a b))) (q := (.node .leaf (.node .leaf .leaf), .node (.node .leaf .leaf) .leaf)) hb hq
    have hB := act_mul0 (A, .node l (.node a b)) (.node .leaf (.node .leaf .leaf), .node (.node .leaf .leaf) .leaf) hb hq
    have e2 : (mul0 (A, .node l (.node a b)) (.node .leaf (.node .leaf .leaf), .node (.node .leaf .leaf) .leaf)).2 = .node (.node l a) b := by
      unfold mul0
      simp only [join, join_leaf, partsT, fill, Tr.grown, List.cons_append, List.nil_append, Tr.carets]
      rfl
    generalize mul0 (A, .node l (.node a b)) (.node .leaf (.node .leaf .leaf), .node (.node .leaf .leaf) .leaf) = q at *
    obtain ⟨Q1, Q2⟩ := q
    simp only at e2
    subst e2
    have hb1 : Bal (Q1, .node (.node l a) b) := by unfold Bal; simp only at m1 m2 ⊢; omega
    have hC : Bal ((.node .leaf (.node .leaf .leaf), .node .leaf (.node .leaf .leaf)) : Tr × Tr) := rfl
    obtain ⟨n1, n2⟩ := mul0_carets (p := (Q1, .node (.node l a) b)) (q := (.node .leaf (.node .leaf .leaf), .node .leaf (.node .leaf .leaf))) hb1 hC
    refine Rep2.of (q := mul0 (Q1, .node (.node l a) b) (.node .leaf (.node .leaf .leaf), .node .leaf (.node .leaf .leaf))) (by unfold Bal; omega) ⟨_, _, _, rfl⟩ ?_ (fun s => by rw [act_mul0 _ _ hb1 hC, act_self, hB, ha, act_mul hp hq])
    rw [n2]
    have := join_caret b
    simp only [join, join_leaf, Tr.carets] at this hc ⊢
    omega
  · rw [letP_2]
    refine h.times hp rfl (fun l a b => ?_) ⟨_, _, _, rfl⟩
    have := join_caret a
    simp only [join, join_leaf, Tr.carets]
    omega
  · rw [letP_m2]
    refine h.times hp rfl (fun l a b => ?_) ⟨_, _, _, rfl⟩
    have := join_caret b
    simp only [join, join_leaf, Tr.carets]
    omega
theorem Rep2.carets {p : Tr × Tr} {m : Nat} (h : Rep2 p m) (hp : Bal p) (hr : bothT p.1 p.2 = []) : p.1.carets ≤ m := by
  obtain ⟨A, l, a, b, hb, hc, ha⟩ := h
  have e : red (A, .node l (.node a b)) = p := by rw [red_ext hb hp ha, red_nil hr]
  have := (red_le (A, .node l (.node a b))).1
  rw [e] at this
  unfold Bal at hb
  simp only at this hb
  omega
theorem pairW_rep : ∀ (n : Nat) (ws : List Int), ws.length = n → (∀ x ∈ ws, x ≠ 0 ∧ -2 ≤ x ∧ x ≤ 2) → Rep2 (pairW ws) (n + 2) := by
  intro n
  induction n with
  | zero => intro ws h _; obtain rfl := List.length_eq_zero_iff.1 h; exact Rep2.one
  | succ n ih =>
    intro ws h hz
    obtain ⟨u, x, rfl⟩ : ∃ u x, ws = u ++ [x] := ⟨ws.dropLast, ws.getLast (by intro e; subst e; simp at h), (List.dropLast_concat_getLast _).symm⟩
    have hx := hz x (by simp)
    have hu : ∀ y ∈ u, y ≠ 0 ∧ -2 ≤ y ∧ y ≤ 2 := fun y hy => hz y (List.mem_append_left _ hy)
    have i := ih u (by simp at h; omega) hu
    rw [pairW_snoc, show n + 1 + 2 = n + 2 + 1 by omega]
    exact i.letter (pairW_bal fun y hy => (hu y hy).1) hx
theorem pairW_few {ws : List Int} (hz : ∀ x ∈ ws, x ≠ 0 ∧ -2 ≤ x ∧ x ≤ 2) : (pairW ws).1.carets ≤ ws.length + 2 :=
  (pairW_rep _ ws rfl hz).carets (pairW_bal fun y hy => (hz y hy).1) (pairW_red fun y hy => (hz y hy).1)
theorem pwW_pairW' (xs : List Int) (h8 : ∀ j, j ≤ xs.length → (pairW (xs.take j)).1.carets ≤ 8) : ∀ (d j : Nat), j + d = xs.length → pwW (xs.drop j) (pairW (xs.take j)) = some (pairW xs)
  | 0, j, h => by rw [List.drop_eq_nil_of_le (by omega), List.take_of_length_le (by omega)]; rfl
  | d + 1, j, h => by
    have hj : j < xs.length := by omega
    have hx : xs[j]? = some xs[j] := List.getElem?_eq_getElem hj
    have e : mul (pairW (xs.take j)) (letP xs[j]) = pairW (xs.take (j + 1)) := by rw [List.take_add_one, hx]; exact (pairW_snoc _ _).symm
    have := h8 (j + 1) (by omega)
    rw [pwW_step xs j _ hx, e, if_neg (by omega)]
    exact pwW_pairW' xs h8 d (j + 1) (by omega)
theorem pwW_pairW (xs : List Int) (h8 : ∀ j, j ≤ xs.length → (pairW (xs.take j)).1.carets ≤ 8) : pwW xs one = some (pairW xs) := pwW_pairW' xs h8 _ 0 (Nat.zero_add _)
theorem pwW_two {xs : List Int} (hz : ∀ x ∈ xs, x ≠ 0 ∧ -2 ≤ x ∧ x ≤ 2) (hl : xs.length ≤ 6) : pwW xs one = some (pairW xs) :=
  pwW_pairW xs fun j hj => by
    have := pairW_few (ws := xs.take j) fun x hx => hz x (List.mem_of_mem_take hx)
    rw [List.length_take] at this
    omega
end Go.Proofs.YtijnadjgmmednaaGreat.N
