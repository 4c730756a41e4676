import Derived.Test.YtijnadjgmmednaaXg10
import Derived.Test.YtijnadjgmmednaaXg19
/- A part of the proof: lemmas that later parts use. -/
set_option linter.unusedVariables false
set_option linter.unusedSimpArgs false
namespace Go.Proofs.Ytijnadjgmmednaa.N
open Go.RowKit
set_option maxHeartbeats 3200000 in
theorem insSort_none (fv : Value) (w : World) :
    Calls Try.prog 179 #[.slice none 0 0, .int .i64 0, .int .i64 0, fv] w fun e w' => e = .returned (.tuple #[]) ∧ w' = w := by
  go_enter Try.func179, Try.ntmps179
  go_wp2_with fail
  refine wp_loop_rounds 1 ?_
  rw [rounds_succ]
  go_wp2_with fail
  go_end0
  exact ⟨rfl, rfl⟩
set_option maxHeartbeats 3200000 in
theorem pdq_none (lim : Int) (fv : Value) (w : World) :
    Calls Try.prog 172 #[.slice none 0 0, .int .i64 0, .int .i64 0, .int .i64 lim, fv] w fun e w' => e = .returned (.tuple #[]) ∧ w' = w := by
  have C1 := Lib.hid (fun W => insSort_none fv W)
  go_enter Try.func172, Try.ntmps172
  go_wp2_with fail
  refine wp_loop_rounds 1 ?_
  rw [rounds_succ]
  go_wp2_with fail
  refine (C1.out _).mono ?_
  rintro e w1 ⟨rfl, rfl⟩
  go_wp2_with fail
  (try simp only [Exit.inBlock, Exit.then]); refine bodyPost_ret (results_none rfl _ _ _) rfl ?_
  exact ⟨rfl, rfl⟩
set_option maxHeartbeats 3200000 in
theorem sort_none (fv : Value) (w : World) :
    Calls Try.prog 147 #[.slice none 0 0, fv] w fun e w' => e = .returned (.tuple #[]) ∧ w' = w := by
  have C1 := Lib.hid (fun l W => pdq_none l fv W)
  have C2 : Hid (∀ W, Calls Try.prog 173 #[.int .u64 0] W fun e w' => e = .returned (.int .i64 (Lib.bitLen 0 : Nat)) ∧ w' = W) := fun W =>
    Any.bits_Len (SlLaysF0.n15.bits (P := Try.prog) (ρ := sortNode_ren) { sortNode with }) 0 W (by omega) (by omega)
  generalize (Lib.bitLen 0) = z at *
  go_enter Try.func147, Try.ntmps147
  go_wp2_with fail
  refine (C2.out _).mono ?_
  rintro e w1 ⟨rfl, rfl⟩
  go_wp2_with fail
  refine (C1.out _ _).mono ?_
  rintro e w1 ⟨rfl, rfl⟩
  go_wp2_with fail
  go_end0
  exact ⟨rfl, rfl⟩
theorem sortNodes_calls (w : World) (Ts : List Tr) (ps : List (Option Addr)) (base : Nat) (v : Value) (hl : Ts.length ≤ 1000000) (hc : ∀ T ∈ Ts, T.carets ≤ 1000) (ho : Own w base 80 v (ptrs ps)) (hr : Reps w Ts ps) :
    Calls Try.prog 147 #[v, .func (.func 148) #[] #[]] w fun e w' => e = .returned (.tuple #[]) ∧
      ∃ (Us : List Tr) (qs : List (Option Addr)), Us.Perm Ts ∧ Us.map tx = srt (Ts.map tx) ∧ Own w' base 80 v (ptrs qs) ∧ Reps w' Us qs ∧ w.grownBy w' v.ownBlock := by
  rcases ho.2 with ⟨rfl, h0⟩ | ⟨g, cap, cur, rfl, _⟩
  · refine (sort_none _ w).mono ?_
    rintro e w' ⟨rfl, rfl⟩
    have hp : ps = [] := by rw [ptrs_length] at h0; exact List.length_eq_zero_iff.1 h0
    subst hp
    have hT : Ts = [] := List.length_eq_zero_iff.1 (by rw [hr.1]; rfl)
    subst hT
    exact ⟨rfl, [], [], List.Perm.refl _, rfl, ho, hr, grownBy_refl _ _⟩
  · obtain ⟨d, h1, h2⟩ := nodesOf hr hc
    have e1 : ptrs ps = d.map (encN w) := by rw [← h2, ptrs, List.map_map]; rfl
    have hd : d.toArray.size = (ptrs ps).length := by rw [e1]; simp
    have hs : d.toArray.size ≤ 1000000 := by rw [List.size_toArray, ← List.length_map (fun x : NodeIn w => x.1.2), h1]; exact hl
    have C := sort_some w d.toArray base g cap hs (by rw [hd, ← e1]; exact ho)
    rw [hd] at C
    refine C.mono ?_
    rintro e w' ⟨rfl, d', hp, hso, ho2, hr2, hg⟩
    have hp' : d'.toList.Perm d := hp
    refine ⟨rfl, d'.toList.map (fun x => x.1.2), d'.toList.map (fun x => x.1.1), ?_, ?_, ?_, hr2, hg⟩
    · rw [← h1]; exact hp'.map _
    · refine srt_unique _ _ ?_ (by rw [List.map_map]; exact hso) (srt_srt _)
      refine List.Perm.trans ?_ (srt_perm _).symm
      rw [← h1]
      exact (hp'.map _).map _
    · have e2 : ptrs (d'.toList.map fun x => x.1.1) = d'.toList.map (encN w) := by rw [ptrs, List.map_map]; rfl
      rw [e2]; exact ho2
set_option maxHeartbeats 6400000 in
set_option maxRecDepth 100000 in
theorem neighbours_calls (T : Tr) (hT : T.carets ≤ 50) (p : Option Addr) (w : World) (hr : Rep w T p) :
    Calls Try.prog 102 #[.pointer p] w fun e w' => ∃ v Us qs, e = .returned v ∧ Own w' w.heap.size 80 v (ptrs qs) ∧ Reps w' Us qs ∧ Us.map tx = nearS T ∧ (∀ U ∈ Us, U.carets = T.carets) ∧ Ext w w' := by
  have HT := Lib.hid hT
  have CP := Lib.hid (fun bk W (h : Ext w W) => turns_calls bk T (by omega) p W (hr.ext h))
  have CA := Lib.hid (fun bk a W (h : Ext w W) => turn_calls bk a T (S a) p W rfl (hr.ext h))
  have SO := Lib.hid (fun W Ts ps base v (h1 : Ts.length ≤ 1000000) (h2 : ∀ U ∈ Ts, U.carets ≤ 1000) ho h3 => sortNodes_calls W Ts ps base v h1 h2 ho h3)
  clear hT hr
  have X0 := Lib.hid ((Ext.refl w).alloc (.cells #[.bool false, .bool true] 4))
  have B0 : Hid ((w.alloc (.cells #[.bool false, .bool true] 4)).heap[w.heap.size]? = some (.cells #[.bool false, .bool true] 4)) := heap_alloc_new w _
  go_enter Try.func102, Try.ntmps102
  go_wp2_with fail
  generalize w.alloc (.cells #[.bool false, .bool true] 4) = W at *
  go_loopw [12, 3] (fun i o wr => ∃ (k : Nat) (ps : List (Option Addr)), k ≤ 2 ∧ i = .int .i64 k ∧ Hid (Own wr W.heap.size 80 o (ptrs ps)) ∧ Hid (Reps wr (grp T k) ps) ∧ Hid (Ext W wr)) (fun i _ _ => 2 - (intOf i).toNat)
  case atStart => exact ⟨0, [], Nat.zero_le _, rfl, Own.nil _ _ _, Reps.nil _, Ext.refl _⟩
  case round =>
    obtain ⟨k, ps, hk, rfl, HO, HR, HX⟩ := hrel
    by_cases hlt : k < 2
    · obtain ⟨c0, c1⟩ := cells_of (HX.out.at B0.out)
      have c : wr.cell? ⟨w.heap.size, k, none⟩ = some (.bool (bkOf k)) := by
        rcases (by omega : k = 0 ∨ k = 1) with rfl | rfl
        · exact c0
        · exact c1
      have GS := Lib.hid (grp_step T k hlt)
      have h0 : (0 : Int) ≤ k := by omega
      have h1 : (k : Int) < 2 := by omega
      have GL := Lib.hid (grp_length T k)
      clear c0 c1
      generalize bkOf k = bk at *
      generalize grp T k = P at *
      go_wp2_with fail
      refine (CP.out bk _ (X0.out.trans HX.out)).mono ?_
      rintro e w2 ⟨v2, rfl, o2, x2⟩
      obtain ⟨A2, q2, rfl, _, _⟩ := o2.reads
      rw [sls_length] at o2 ⊢
      have R2 := Lib.hid (o2.mono HX.out.size)
      have HO2 := Lib.hid (HO.out.ext x2)
      have HR2 := Lib.hid (HR.out.ext x2)
      have HX2 := Lib.hid (HX.out.trans x2)
      have LQ := Lib.hid (turns_length bk T)
      have MA := Lib.hid (mvs_all bk T)
      have MT := Lib.hid (moves_take bk T)
      have ML := Lib.hid (mvs_length bk T)
      have M0 : Hid (mvs bk T 0 = []) := by show _ = _; simp [mvs]
      have LO : Hid (∀ o : Value, True) := fun _ => trivial
      clear o2 x2
      generalize hqs : T.turns bk = qs at *
      have qb : (qs.length : Int) ≤ 50 := by have := LQ.out; have := HT.out; omega
      go_wp2_with fail
      go_loopw [20, 3] (fun i o wr => ∃ (j : Nat) (ps : List (Option Addr)), j ≤ qs.length ∧ i = .int .i64 j ∧ Hid (Own wr W.heap.size 80 o (ptrs ps)) ∧ Hid (Reps wr (P ++ mvs bk T j) ps) ∧ Hid (Own wr W.heap.size 9 (.slice A2 qs.length q2) (sls qs)) ∧ Hid (Ext W wr)) (fun i _ _ => qs.length - (intOf i).toNat)
      case atStart => exact ⟨0, ps, Nat.zero_le _, rfl, HO2.out, by rw [M0.out, List.append_nil]; exact HR2.out, R2.out, HX2.out⟩
      case round =>
        obtain ⟨j, ps, hj, rfl, HO, HR, HQ, HX⟩ := hrel
        by_cases hjt : j < qs.length
        · have HQ0 := HQ
          obtain ⟨Ax, cx, e1, _, rd⟩ := HQ.out.reads
          rw [sls_length] at rd e1
          obtain ⟨ad, e2, ca⟩ := rd (by omega)
          injection e1 with e3 e4 e5
          subst e3 e5
          subst e2
          clear e4
          have c1 := ca j _ (sls_get qs j hjt)
          have g0 : (0 : Int) ≤ j := by omega
          have g1 : (j : Int) < qs.length := by omega
          obtain ⟨U, hU, hM⟩ := MT.out j _ (List.getElem?_eq_getElem hjt)
          have hM : mvs bk T (j + 1) = mvs bk T j ++ [U] := by unfold mvs; rw [hqs]; exact hM
          have HM := Lib.hid hM
          have C := CA.out bk qs[j] wr (X0.out.trans HX.out)
          rw [hU] at C
          have C := Lib.hid C
          have LL : (P ++ mvs bk T j).length ≤ 150 := by
            rw [List.length_append]
            have := GL.out; have := ML.out j; have := HT.out; omega
          have HQ := HQ0
          clear ca rd hU hM HQ0
          generalize qs[j] = qa at *
          go_wp2_with fail
          refine C.out.mono ?_
          rintro e w3 ⟨hx3, q, rfl, hq⟩
          have HO3 := HO.out.ext hx3
          have HR3 := Lib.hid (HR.out.ext hx3)
          have HQ3 := Lib.hid (HQ.out.ext hx3)
          have HX3 := Lib.hid (HX.out.trans hx3)
          have hq' := Lib.hid hq
          have O2 := HO3.ext ((Ext.refl _).alloc (.cells #[.pointer q] 80))
          have RL : Hid (Reads (w3.alloc (.cells #[.pointer q] 80)) (.slice (some ⟨w3.heap.size, 0, none⟩) 1 1) (ptrs [q])) := (Own.lit w3 0 80 #[.pointer q] (Nat.zero_le _) (by show 1 ≤ maxLen; decide)).reads
          have LT : Hid (((ptrs ps).length + (ptrs [q]).length) * 8 ≤ 140737488355328) := by show _ ≤ _; rw [ptrs_length, ptrs_length, ← HR.out.1]; simp only [List.length_singleton]; omega
          have B1 := Lib.hid (HX3.out.alloc (.cells #[.pointer q] 80)).size
          clear hx3 hq HO3
          go_wp2_with (at_builtin; refine wpList_app rfl (.tmp 31) (.tmp 33) 121 rfl W.heap.size 80 (.pointer none) 8 Try.underlying121 infoNode rfl (by omega) _ _ _ (ptrs [q]) rfl rfl O2 RL.out (ptrs_one _) LT.out B1.out ?_; intro v4 w4 o4 g4 _)
          have X4 := Lib.hid ((HX3.out.alloc _).grown g4 O2.lo)
          have xa := (Ext.refl w3).alloc (.cells #[.pointer q] 80)
          have R4 := Lib.hid ((HR3.out.ext xa).row O2 (by decide) g4)
          have N4 := Lib.hid ((hq'.out.ext xa).row O2 (by decide) g4)
          have Q4 : Hid (Own w4 W.heap.size 9 (.slice (some ad) qs.length q2) (sls qs)) := (HQ3.out.ext xa).far g4 (fun k hk hk2 => by
            obtain ⟨cs, fr, e1⟩ := O2.typed k hk
            obtain ⟨cs', fr', e2⟩ := (HQ3.out.ext xa).typed k hk2
            rw [e1] at e2
            injection e2 with e2; injection e2 with _ e3
            exact absurd e3 (by decide))
          rw [ptrs_append] at o4
          have O4 := Lib.hid o4
          clear o4 g4 O2 xa
          go_wp2_with fail
          exact ⟨⟨j + 1, ps ++ [q], by omega, by go_num, O4.out, by rw [HM.out, ← List.append_assoc]; exact R4.out.snoc N4.out, Q4.out, X4.out⟩, by simp [intOf]; omega⟩
        · have g1 : (qs.length : Int) ≤ j := by omega
          obtain rfl : j = qs.length := by omega
          have EG : Hid (P ++ mvs bk T qs.length = grp T (k + 1)) := by show _ = _; rw [GS.out, MA.out]
          go_wp2_with fail
          exact ⟨⟨k + 1, ps, by omega, by go_num, HO.out, by rw [← EG.out]; exact HR.out, HX.out⟩, by simp [intOf]; omega⟩
    · have h1 : ¬ (k : Int) < 2 := by omega
      obtain rfl : k = 2 := by omega
      have G2 := Lib.hid (grp_length T 2)
      have GE : Hid (grp T 2 = near0 T) := rfl
      have C := Lib.hid (SO.out wr (grp T 2) ps W.heap.size _ (by have := G2.out; have := HT.out; omega) (fun U hU => by rw [GE.out] at hU; rw [near0_carets hU]; have := HT.out; omega) HO.out HR.out)
      go_wp2_with fail
      refine C.out.mono ?_
      rintro e w5 ⟨rfl, Us, us, hp, hs, o5, r5, g5⟩
      have X5 := Lib.hid (HX.out.grown g5 HO.out.lo)
      have O5 := Lib.hid o5
      have R5 := Lib.hid (And.intro r5 (And.intro hp hs))
      clear o5 r5 g5 hp hs
      go_wp2_with fail
      go_ret
      refine ⟨_, Us, us, rfl, O5.out.mono X0.out.size, R5.out.1, R5.out.2.2, fun U hU => near0_carets (R5.out.2.1.mem_iff.1 hU), X0.out.trans X5.out⟩
end Go.Proofs.Ytijnadjgmmednaa.N
namespace Go.Proofs.Ytijnadjgmmednaa.N
open Go.RowKit
theorem implNear_yes (T : Tr) (hT : T.carets ≤ 8) (w : World) :
    Calls Try.prog 35 #[.string (tx T)] w (GivesLS w (nearS T) true) := by
  have C1 := Lib.hid (parse_yes T w hT)
  have C2 := fun p w h => neighbours_calls T (by omega) p w h
  have CL : Hid (T.carets < 1000000) := by show _ < _; omega
  have NL : Hid ((nearS T).length < 1000000) := by show _ < _; unfold nearS; rw [srt_length, List.length_map]; have := near0_length T; omega
  clear hT
  go_enter Try.func35, Try.ntmps35
  go_wp2_with fail
  refine C1.out.mono ?_
  rintro e w1 ⟨p, rfl, hp, hx⟩
  have H := Lib.hid (And.intro hp hx)
  clear hp hx
  go_wp2_with fail
  refine (C2 _ _ H.out.1).mono ?_
  rintro e w2 ⟨v, Us, ps, rfl, o, r, hu, hc, x⟩
  have H2 := Lib.hid (And.intro o (And.intro r (And.intro hu (And.intro hc x))))
  clear o r x hu hc
  go_wp2_with fail
  refine (textsOf_calls Us ps v _ (by have := NL.out; rw [← H2.out.2.2.1, List.length_map] at this; exact this) (fun U hU => by rw [H2.out.2.2.2.1 U hU]; exact CL.out) H2.out.1.reads H2.out.2.1).mono ?_
  rintro e w1 ⟨v3, rfl, o3, x3⟩
  go_wp2_with fail
  go_ret2
  have x := H.out.2.trans H2.out.2.2.2.2
  exact ⟨v3, rfl, by rw [← H2.out.2.2.1]; exact o3.mono x.size, x.trans x3⟩
end Go.Proofs.Ytijnadjgmmednaa.N
