import Derived.Test.YtfkjjmmoipcddaaBa
import Derived.Test.YtfkjjmmoipcddaaPu
import Derived.Test.YtfkjjmmoipcddaaSl
import Derived.Test.YtfkjjmmoipcddaaProg
import Derived.Test.YtfkjjmmoipcddaaTn
import Derived.Test.YtfkjjmmoipcddaaTs
import Derived.Test.YtfkjjmmoipcddaaT2
import Derived.Test.YtfkjjmmoipcddaaWl
import Derived.Test.YtfkjjmmoipcddaaT3
import Derived.Deep.LoopGhost
/- The chain of a tree to the right comb. -/
namespace Go.Proofs.Ytfkjjmmoipcddaa.N
open Go.RowKit
set_option linter.unusedVariables false
set_option linter.unusedSimpArgs false

theorem infoNode : (Try.prog.info? 76).map (fun i => (i.zero, i.size, i.bytes)) = some (some (.pointer none), 1, 8) := by kernel_rfl

set_option maxHeartbeats 3200000 in
theorem textsOf_calls (Ts : List Tr) (ps : List (Option Addr)) (v : Value) (w : World) (hn : Ts.length < 1000000) (hc : ∀ T ∈ Ts, T.carets < 1000000) (hv : Reads w v (ptrs ps)) (hr : Reps w Ts ps) :
    Calls Try.prog 60 #[v] w fun e w' => ∃ v, e = .returned v ∧ Own w' w.heap.size 9 v (strs (Ts.map tx)) ∧ Ext w w' := by
  obtain ⟨A, c, rfl, _, rd⟩ := hv
  rw [ptrs_length, ← hr.1] at rd ⊢
  have RD := Lib.hid rd
  have HR := Lib.hid hr
  have HC := Lib.hid hc
  clear rd hr hc
  go_enter Try.func60, Try.ntmps60
  go_wp2_with fail
  go_loopw [3, 8] (fun v i wr => ∃ k : Nat, k ≤ Ts.length ∧ i = .int .i64 k ∧ Own wr w.heap.size 9 v (strs ((Ts.take k).map tx)) ∧ Ext w wr) (fun _ i _ => Ts.length - (intOf i).toNat)
  case atStart => exact ⟨0, Nat.zero_le _, rfl, Own.nil _ _ _, Ext.refl _⟩
  case round =>
    obtain ⟨k, hk, rfl, ho, hx⟩ := hrel
    have HO := Lib.hid ho
    have HX := Lib.hid hx
    clear ho hx
    by_cases hlt : k < Ts.length
    · obtain ⟨ad, rfl, ca⟩ := RD.out (by omega)
      have hlt2 : k < ps.length := by rw [← HR.out.1]; exact hlt
      have c1 := HX.out.cell (ca k _ (ptrs_get ps k hlt2))
      have h0 : (0 : Int) ≤ k := by omega
      have h1 : (k : Int) < Ts.length := by omega
      have CT := Lib.hid (text_calls Ts[k] ps[k] wr (by have := HC.out Ts[k] (List.getElem_mem hlt); omega) ((HR.out.2 k _ _ (List.getElem?_eq_getElem hlt) (List.getElem?_eq_getElem hlt2)).ext HX.out))
      have ET : Hid ((Ts.take (k + 1)).map tx = (Ts.take k).map tx ++ [tx Ts[k]]) := by show _ = _; rw [List.take_add_one, List.getElem?_eq_getElem hlt, List.map_append]; rfl
      have LT : Hid (((strs ((Ts.take k).map tx)).length + (strs [tx Ts[k]]).length) * 16 ≤ 140737488355328) := by
        show _ ≤ _; rw [strs_length, strs_length, List.length_map, List.length_take]; show (_ + 1) * 16 ≤ _; omega
      clear ca
      generalize ps[k] = q at *
      generalize Ts[k] = T at *
      go_wp2_with fail
      refine CT.out.mono ?_
      rintro e w2 ⟨rfl, n, rfl⟩
      have O2 := (HO.out.ext ((Ext.refl _).drewN n)).ext ((Ext.refl _).alloc (.cells #[.string (tx T)] 9))
      have X2 := Lib.hid (HX.out.drewN n)
      have R1 := Lib.hid (Own.lit (wr.drewN n) 0 9 #[.string (tx T)] (Nat.zero_le _) (by show 1 ≤ maxLen; decide)).reads
      have B1 := Lib.hid (X2.out.alloc (.cells #[.string (tx T)] 9)).size
      go_wp2_with (at_builtin; refine wpList_app rfl (.tmp 12) (.tmp 15) 22 rfl w.heap.size 9 (.string ⟨#[]⟩) 16 Try.underlying22 infoStr rfl (by omega) _ _ _ (strs [tx T]) rfl rfl O2 R1.out (strs_one _) LT.out B1.out ?_; intro v3 w3 o3 g3 _)
      have O3 := Lib.hid o3
      have X3 := Lib.hid ((X2.out.alloc _).grown g3 O2.lo)
      clear o3 g3
      go_wp2_with fail
      exact ⟨⟨k + 1, by omega, by go_num, by rw [ET.out]; have := O3.out; simpa [strs] using this, X3.out⟩, by simp [intOf]; omega⟩
    · have h1 : (Ts.length : Int) ≤ k := by omega
      have E : Hid (Ts.take k = Ts) := List.take_of_length_le (by omega)
      go_wp2_with fail
      go_ret
      refine ⟨_, rfl, ?_, HX.out⟩
      have := HO.out
      rw [E.out] at this
      exact this

set_option maxHeartbeats 3200000 in
set_option maxRecDepth 100000 in
theorem chain_calls (T : Tr) (hT : T.carets ≤ 900) (p : Option Addr) (w : World) (hr : Rep w T p) :
    Calls Try.prog 58 #[.pointer p] w fun e w' => ∃ v ps, e = .returned v ∧ Own w' w.heap.size 76 v (ptrs ps) ∧ Reps w' T.chain ps ∧ Ext w w' := by
  have HR := Lib.hid (And.intro hr hT)
  have CL : Hid (T.chain.length < 1000000) := by
    show _ < _; have := chain_length T; have : T.carets * T.carets ≤ 900 * 900 := Nat.mul_le_mul hT hT; omega
  clear hr hT
  go_enter Try.func58, Try.ntmps58
  go_wp2_with fail
  have O0 := Lib.hid (Own.lit w w.heap.size 76 #[.pointer p] (Nat.le_refl _) (by show 1 ≤ maxLen; decide))
  have X0 := Lib.hid ((Ext.refl w).alloc (.cells #[.pointer p] 76))
  refine (turns_calls false T (by have := HR.out.2; omega) p _ (HR.out.1.ext X0.out)).mono ?_
  rintro e w1 ⟨v1, rfl, o1, x1⟩
  obtain ⟨A1, n1, c1, rfl⟩ : ∃ A n c, v1 = .slice A n c := by obtain ⟨A, c, e, _⟩ := o1.reads; exact ⟨A, _, c, e⟩
  have O1 := Lib.hid o1
  have X1 := Lib.hid (X0.out.trans x1)
  have OX := Lib.hid (O0.out.ext x1)
  clear o1 x1
  go_wp2_with fail
  go_loopg [0, 3, 4] T.phi (fun f t o l wr => ∃ (U : Tr) (q : Option Addr) (pre : List Tr) (ps : List (Option Addr)) (A : Option Addr) (n c b : Nat), t = .pointer q ∧ l = .slice A n c ∧ Hid (U.phi = f) ∧ Hid (U.carets ≤ 900) ∧ Hid (Rep wr U q) ∧ Hid (pre ++ U.chain = T.chain) ∧
      Hid (Own wr w.heap.size 76 o (ptrs ps)) ∧ Hid (Reps wr (pre ++ [U]) ps) ∧ Hid (Own wr b 9 (.slice A n c) (sls (U.turns false))) ∧ Hid (Ext w wr))
  case atStart =>
    refine ⟨T, p, [], [p], A1, n1, c1, _, rfl, rfl, rfl, HR.out.2, HR.out.1.ext X1.out, rfl, OX.out, ?_, O1.out, X1.out⟩
    exact (Reps.nil _).snoc (HR.out.1.ext X1.out)
  case round =>
    obtain ⟨U, q, pre, ps, A, n, c, b, rfl, rfl, H1, H2, H3, H4, H5, H6, H7, H8⟩ := hrel
    cases ht : U.turns false with
    | nil =>
      have h7 := H7.out
      rw [ht] at h7
      obtain ⟨_, _, e1, _⟩ := h7.reads
      injection e1 with _ e2 _
      obtain rfl : n = 0 := e2
      have EC : Hid (pre ++ [U] = T.chain) := by show _ = _; rw [← H4.out, chain_none ht]
      clear h7 ht
      go_wp2_with fail
      go_ret
      exact ⟨_, ps, rfl, H5.out, EC.out ▸ H6.out, H8.out⟩
    | cons a l =>
      have h7 := H7.out
      rw [ht] at h7
      obtain ⟨_, _, e1, _, rd⟩ := h7.reads
      injection e1 with e0 e2 e3
      subst e0
      obtain ⟨ad, hA, ca⟩ := rd (by simp [sls])
      subst hA
      have c0 : wr.cell? ad = some (.string (S a)) := ca 0 _ rfl
      have hn : (0 : Int) < n := by rw [e2]; simp [sls]
      have hn' : 0 < n := by omega
      obtain ⟨V, hV, hs⟩ := step_cons ht
      have C := turn_calls false a U (S a) q wr rfl H3.out
      rw [hV] at C
      have C := Lib.hid C
      have PH := Lib.hid (step_phi hs)
      have EC : Hid ((pre ++ [U]) ++ V.chain = T.chain) := by show _ = _; rw [← H4.out, chain_step hs]; simp
      have LP : Hid (ps.length < 1000000) := by
        show _ < _
        have h1 := H6.out.1
        have h2 := congrArg List.length EC.out
        have h3 := CL.out
        simp at h1 h2; omega
      clear h7 e2 e3 rd ca ht hV hs
      go_wp2_with fail
      refine C.out.mono ?_
      rintro e w2 ⟨x2, p2, rfl, r2⟩
      have R2 := Lib.hid r2
      have X2 := Lib.hid (H8.out.trans x2)
      have O2 := (H5.out.ext x2).ext ((Ext.refl _).alloc (.cells #[.pointer p2] 76))
      have RS2 := Lib.hid (((H6.out.ext x2).snoc r2).ext ((Ext.refl _).alloc (.cells #[.pointer p2] 76)))
      clear x2 r2
      have RL := Lib.hid (Own.lit w2 0 76 #[.pointer p2] (Nat.zero_le _) (by show 1 ≤ maxLen; decide)).reads
      have LT : Hid (((ptrs ps).length + (ptrs [p2]).length) * 8 ≤ 140737488355328) := by show _ ≤ _; rw [ptrs_length]; have := LP.out; show (_ + 1) * 8 ≤ _; omega
      have B1 := Lib.hid (X2.out.alloc (.cells #[.pointer p2] 76)).size
      go_wp2_with (at_builtin; refine wpList_app rfl (.tmp 22) (.tmp 24) 81 rfl w.heap.size 76 (.pointer none) 8 Try.underlying81 infoNode rfl (by omega) _ _ _ (ptrs [p2]) rfl rfl O2 RL.out (ptrs_one _) LT.out B1.out ?_; intro v3 w3 o3 g3 _)
      have R3 := Lib.hid ((R2.out.ext ((Ext.refl _).alloc (.cells #[.pointer p2] 76))).row O2 (by decide) g3)
      have RS3 := Lib.hid (RS2.out.row O2 (by decide) g3)
      have X3 := Lib.hid ((X2.out.alloc _).grown g3 O2.lo)
      rw [ptrs_append] at o3
      have O3 := Lib.hid o3
      clear o3 g3 O2
      go_wp2_with fail
      refine (turns_calls false V (by have := HR.out.2; have := PH.out.2; have := H2.out; omega) p2 _ R3.out).mono ?_
      rintro e w4 ⟨v4, rfl, o4, x4⟩
      obtain ⟨A4, n4, c4, rfl⟩ : ∃ A n c, v4 = .slice A n c := by obtain ⟨A, c, e, _⟩ := o4.reads; exact ⟨A, _, c, e⟩
      have O4 := Lib.hid o4
      have X4 := Lib.hid x4
      clear o4 x4
      go_wp2_with fail
      go_roundg V.phi
      case measure => have := H1.out; have := PH.out.1; omega
      case rel => exact ⟨V, p2, pre ++ [U], ps ++ [p2], A4, n4, c4, _, rfl, rfl, rfl, by show _ ≤ _; have := PH.out.2; have := H2.out; omega, R3.out.ext X4.out, EC.out, O3.out.ext X4.out, RS3.out.ext X4.out, O4.out, X3.out.trans X4.out⟩

set_option maxHeartbeats 3200000 in
set_option maxRecDepth 100000 in
theorem brChain_calls (T : Tr) (hT : T.carets ≤ 50) (w : World) :
    Calls Try.prog 56 #[.string (tx T)] w fun e w' => ∃ v, e = .returned v ∧ Own w' w.heap.size 9 v (strs (T.chain.map tx)) ∧ Ext w w' := by
  have HT := Lib.hid hT
  have CL : Hid (T.chain.length < 1000000) := by
    show _ < _; have := chain_length T; have : T.carets * T.carets ≤ 50 * 50 := Nat.mul_le_mul hT hT; omega
  clear hT
  go_enter Try.func56, Try.ntmps56
  go_wp2_with fail
  have O0 := Lib.hid (Own.lit w w.heap.size 9 #[.string (tx T)] (Nat.le_refl _) (by show 1 ≤ maxLen; decide))
  have X0 := Lib.hid ((Ext.refl w).alloc (.cells #[.string (tx T)] 9))
  have CP := fun (U : Tr) (h : U.carets ≤ 50) w => brPlaces_calls false U [] ⟨#[]⟩ w h (by simp; omega) rfl
  simp only [brPl_nil] at CP
  refine (CP T HT.out _).mono ?_
  rintro e w1 ⟨v1, rfl, o1, x1⟩
  obtain ⟨A1, n1, c1, rfl⟩ : ∃ A n c, v1 = .slice A n c := by obtain ⟨A, c, e, _⟩ := o1.reads; exact ⟨A, _, c, e⟩
  have O1 := Lib.hid o1
  have X1 := Lib.hid (X0.out.trans x1)
  have OX := Lib.hid (O0.out.ext x1)
  clear o1 x1
  go_wp2_with fail
  go_loopg [0, 3, 4] T.phi (fun f t o l wr => ∃ (U : Tr) (pre : List Tr) (A : Option Addr) (n c b : Nat), t = .string (tx U) ∧ l = .slice A n c ∧ Hid (U.phi = f) ∧ Hid (U.carets ≤ 50) ∧ Hid (pre ++ U.chain = T.chain) ∧
      Hid (Own wr w.heap.size 9 o (strs ((pre ++ [U]).map tx))) ∧ Hid (Own wr b 9 (.slice A n c) (sls (U.turns false))) ∧ Hid (Ext w wr) ∧ Hid (∀ k, o.ownBlock = some k → k < b))
  case atStart => exact ⟨T, [], A1, n1, c1, _, rfl, rfl, rfl, HT.out, rfl, OX.out, O1.out, X1.out, fun k hk => (O0.out.block k hk).2⟩
  case round =>
    obtain ⟨U, pre, A, n, c, b, rfl, rfl, H1, H2, H4, H5, H7, H8, H9⟩ := hrel
    cases ht : U.turns false with
    | nil =>
      have h7 := H7.out
      rw [ht] at h7
      obtain ⟨_, _, e1, _⟩ := h7.reads
      injection e1 with _ e2 _
      obtain rfl : n = 0 := e2
      have EC : Hid (pre ++ [U] = T.chain) := by show _ = _; rw [← H4.out, chain_none ht]
      clear h7 ht
      go_wp2_with fail
      go_ret
      exact ⟨_, rfl, EC.out ▸ H5.out, H8.out⟩
    | cons a l =>
      have h7 := H7.out
      rw [ht] at h7
      obtain ⟨_, _, e1, _, rd⟩ := h7.reads
      injection e1 with e0 e2 e3
      subst e0
      obtain ⟨ad, hA, ca⟩ := rd (by simp [sls])
      subst hA
      have c0 : wr.cell? ad = some (.string (S a)) := ca 0 _ rfl
      have hn : (0 : Int) < n := by rw [e2]; simp [sls]
      have hn' : 0 < n := by omega
      obtain ⟨V, hV, hs⟩ := step_cons ht
      have C := brAt_calls false a U (S a) wr H2.out rfl
      rw [hV] at C
      have C := Lib.hid C
      have PH := Lib.hid (step_phi hs)
      have EC : Hid ((pre ++ [U]) ++ V.chain = T.chain) := by show _ = _; rw [← H4.out, chain_step hs]; simp
      have LP : Hid ((strs ((pre ++ [U]).map tx)).length < 1000000) := by
        show _ < _
        have h2 := congrArg List.length EC.out
        have h3 := CL.out
        rw [strs_length, List.length_map]
        simp at h2 ⊢; omega
      clear h7 e2 e3 rd ca ht hV hs
      go_wp2_with fail
      refine C.out.mono ?_
      rintro e w2 ⟨⟨m, rfl⟩, rfl⟩
      have X2 := Lib.hid (H8.out.drewN m)
      have O2 := (H5.out.ext ((Ext.refl _).drewN m)).ext ((Ext.refl _).alloc (.cells #[.string (tx V)] 9))
      have RL := Lib.hid (Own.lit (wr.drewN m) 0 9 #[.string (tx V)] (Nat.zero_le _) (by show 1 ≤ maxLen; decide)).reads
      have LT : Hid (((strs ((pre ++ [U]).map tx)).length + (strs [tx V]).length) * 16 ≤ 140737488355328) := by show _ ≤ _; have := LP.out; show (_ + 1) * 16 ≤ _; omega
      have B1 := Lib.hid (X2.out.alloc (.cells #[.string (tx V)] 9)).size
      go_wp2_with (at_builtin; refine wpList_app rfl (.tmp 22) (.tmp 24) 22 rfl w.heap.size 9 (.string ⟨#[]⟩) 16 Try.underlying22 infoStr rfl (by omega) _ _ _ (strs [tx V]) rfl rfl O2 RL.out (strs_one _) LT.out B1.out ?_; intro v3 w3 o3 g3 _)
      have X3 := Lib.hid ((X2.out.alloc _).grown g3 O2.lo)
      rw [strs_append] at o3
      have O3 : Hid (Own w3 w.heap.size 9 v3 (strs (((pre ++ [U]) ++ [V]).map tx))) := Lib.hid (by simpa using o3)
      clear o3 g3 O2
      go_wp2_with fail
      refine (CP V (by have := PH.out.2; have := H2.out; omega) _).mono ?_
      rintro e w4 ⟨v4, rfl, o4, x4⟩
      obtain ⟨A4, n4, c4, rfl⟩ : ∃ A n c, v4 = .slice A n c := by obtain ⟨A, c, e, _⟩ := o4.reads; exact ⟨A, _, c, e⟩
      have O4 := Lib.hid o4
      have X4 := Lib.hid x4
      clear o4 x4
      go_wp2_with fail
      go_roundg V.phi
      case measure => have := H1.out; have := PH.out.1; omega
      case rel => exact ⟨V, pre ++ [U], A4, n4, c4, _, rfl, rfl, rfl, by show _ ≤ _; have := PH.out.2; have := H2.out; omega, EC.out, O3.out.ext X4.out, O4.out, X3.out.trans X4.out, fun k hk => (O3.out.block k hk).2⟩

