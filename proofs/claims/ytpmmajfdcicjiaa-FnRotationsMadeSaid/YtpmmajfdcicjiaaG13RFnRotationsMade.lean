import Derived.Test.YtpmmajfdcicjiaaG1RFnRotationsMade
import Derived.Test.YtpmmajfdcicjiaaG2RFnRotationsMade
import Derived.Test.YtpmmajfdcicjiaaProg
import Derived.Test.YtpmmajfdcicjiaaG5RFnRotationsMade
import Derived.Test.YtpmmajfdcicjiaaG3RFnRotationsMade
import Derived.Test.YtpmmajfdcicjiaaG12RFnRotationsMade
import Derived.Deep.LoopGhost
import Derived.Test.YtpmmajfdcicjiaaG6RFnRotationsMade
import Derived.Test.YtpmmajfdcicjiaaG7RFnRotationsMade
import Derived.StillTailTactics
/- The chain of a tree to the right comb. -/
namespace Go.Proofs.Ytpmmajfdcicjiaa.N
open Go.RowKit
set_option linter.unusedVariables false
set_option linter.unusedSimpArgs false

theorem infoNode : (Try.prog.info? 91).map (fun i => (i.zero, i.size, i.bytes)) = some (some (.pointer none), 1, 8) := by kernel_rfl

set_option maxHeartbeats 3200000 in
theorem textsOf_calls (Ts : List Tr) (ps : List (Option Addr)) (v : Value) (w : World) (hn : Ts.length < 1000000) (hc : ∀ T ∈ Ts, T.carets < 1000000) (hv : Reads w v (ptrs ps)) (hr : Reps w Ts ps) :
    Calls Try.prog 118 #[v] w fun e w' => ∃ v, e = .returned v ∧ Own w' w.heap.size 9 v (strs (Ts.map tx)) ∧ Ext w w' := by
  obtain ⟨A, c, rfl, _, rd⟩ := hv
  rw [ptrs_length, ← hr.1] at rd ⊢
  have RD := Lib.hid rd
  have HR := Lib.hid hr
  have HC := Lib.hid hc
  clear rd hr hc
  go_enter Try.func118, Try.ntmps118
  go_wp2_with fail
  go_loopw [3, 8] (fun v i wr => ∃ k : Nat, k ≤ Ts.length ∧ i = .int .i64 k ∧ Own wr w.heap.size 9 v (strs ((Ts.take k).map tx)) ∧ Ext w wr) (fun _ i _ => Ts.length - (intOf i).toNat)
  case atStart => exact ⟨0, Nat.zero_le _, rfl, Own.nil _ _ _, Ext.refl _⟩
  case round =>
    obtain ⟨k, hk, rfl, ho, hx⟩ := hrel
    have HO := Lib.hid ho
    have HX := Lib.hid hx
    clear ho hx
    by_cases hlt : k < Ts.length
    · obtain ⟨ad, rfl, ca⟩ := RD.out (by omega)
      have hlt2 : k < ps.length := by rw [← HR.out.1]; exact hlt
      have c1 := HX.out.cell (ca k _ (ptrs_get ps k hlt2))
      have h0 : (0 : Int) ≤ k := by omega
      have h1 : (k : Int) < Ts.length := by omega
      have CT := Lib.hid (text_calls Ts[k] ps[k] wr (by have := HC.out Ts[k] (List.getElem_mem hlt); omega) ((HR.out.2 k _ _ (List.getElem?_eq_getElem hlt) (List.getElem?_eq_getElem hlt2)).ext HX.out))
      have ET : Hid ((Ts.take (k + 1)).map tx = (Ts.take k).map tx ++ [tx Ts[k]]) := by show _ = _; rw [List.take_add_one, List.getElem?_eq_getElem hlt, List.map_append]; rfl
      have LT : Hid (((strs ((Ts.take k).map tx)).length + (strs [tx Ts[k]]).length) * 16 ≤ 140737488355328) := by
        show _ ≤ _; rw [strs_length, strs_length, List.length_map, List.length_take]; show (_ + 1) * 16 ≤ _; omega
      clear ca
      generalize ps[k] = q at *
      generalize Ts[k] = T at *
      go_wp2_with fail
      refine CT.out.mono ?_
      rintro e w2 ⟨rfl, n, rfl⟩
      have O2 := (HO.out.ext ((Ext.refl _).drewN n)).ext ((Ext.refl _).alloc (.cells #[.string (tx T)] 9))
      have X2 := Lib.hid (HX.out.drewN n)
      have R1 := Lib.hid (Own.lit (wr.drewN n) 0 9 #[.string (tx T)] (Nat.zero_le _) (by show 1 ≤ maxLen; decide)).reads
      have B1 := Lib.hid (X2.out.alloc (.cells #[.string (tx T)] 9)).size
      go_wp2_with (at_builtin; refine wpList_app rfl (.tmp 12) (.tmp 15) 52 rfl w.heap.size 9 (.string ⟨#[]⟩) 16 Try.underlying52 infoStr rfl (by omega) _ _ _ (strs [tx T]) rfl rfl O2 R1.out (strs_one _) LT.out B1.out ?_; intro v3 w3 o3 g3 _)
      have O3 := Lib.hid o3
      have X3 := Lib.hid ((X2.out.alloc _).grown g3 O2.lo)
      clear o3 g3
      go_wp2_with fail
      exact ⟨⟨k + 1, by omega, by go_num, by rw [ET.out]; have := O3.out; simpa [strs] using this, X3.out⟩, by simp [intOf]; omega⟩
    · have h1 : (Ts.length : Int) ≤ k := by omega
      have E : Hid (Ts.take k = Ts) := List.take_of_length_le (by omega)
      go_wp2_with fail
      go_ret
      refine ⟨_, rfl, ?_, HX.out⟩
      have := HO.out
      rw [E.out] at this
      exact this

set_option maxHeartbeats 3200000 in
set_option maxRecDepth 100000 in
theorem chain_calls (T : Tr) (hT : T.carets ≤ 900) (p : Option Addr) (w : World) (hr : Rep w T p) :
    Calls Try.prog 122 #[.pointer p] w fun e w' => ∃ v ps, e = .returned v ∧ Own w' w.heap.size 91 v (ptrs ps) ∧ Reps w' T.chain ps ∧ Ext w w' := by
  have HR := Lib.hid (And.intro hr hT)
  have CL : Hid (T.chain.length < 1000000) := by
    show _ < _; have := chain_length T; have : T.carets * T.carets ≤ 900 * 900 := Nat.mul_le_mul hT hT; omega
  clear hr hT
  go_enter Try.func122, Try.ntmps122
  go_wp2_with fail
  have O0 := Lib.hid (Own.lit w w.heap.size 91 #[.pointer p] (Nat.le_refl _) (by show 1 ≤ maxLen; decide))
  have X0 := Lib.hid ((Ext.refl w).alloc (.cells #[.pointer p] 91))
  refine (turns_calls false T (by have := HR.out.2; omega) p _ (HR.out.1.ext X0.out)).mono ?_
  rintro e w1 ⟨v1, rfl, o1, x1⟩
  obtain ⟨A1, n1, c1, rfl⟩ : ∃ A n c, v1 = .slice A n c := by obtain ⟨A, c, e, _⟩ := o1.reads; exact ⟨A, _, c, e⟩
  have O1 := Lib.hid o1
  have X1 := Lib.hid (X0.out.trans x1)
  have OX := Lib.hid (O0.out.ext x1)
  clear o1 x1
  go_wp2_with fail
  go_loopg [0, 3, 4] T.phi (fun f t o l wr => ∃ (U : Tr) (q : Option Addr) (pre : List Tr) (ps : List (Option Addr)) (A : Option Addr) (n c b : Nat), t = .pointer q ∧ l = .slice A n c ∧ Hid (U.phi = f) ∧ Hid (U.carets ≤ 900) ∧ Hid (Rep wr U q) ∧ Hid (pre ++ U.chain = T.chain) ∧
      Hid (Own wr w.heap.size 91 o (ptrs ps)) ∧ Hid (Reps wr (pre ++ [U]) ps) ∧ Hid (Own wr b 9 (.slice A n c) (sls (U.turns false))) ∧ Hid (Ext w wr))
  case atStart =>
    refine ⟨T, p, [], [p], A1, n1, c1, _, rfl, rfl, rfl, HR.out.2, HR.out.1.ext X1.out, rfl, OX.out, ?_, O1.out, X1.out⟩
    exact (Reps.nil _).snoc (HR.out.1.ext X1.out)
  case round =>
    obtain ⟨U, q, pre, ps, A, n, c, b, rfl, rfl, H1, H2, H3, H4, H5, H6, H7, H8⟩ := hrel
    cases ht : U.turns false with
    | nil =>
      have h7 := H7.out
      rw [ht] at h7
      obtain ⟨_, _, e1, _⟩ := h7.reads
      injection e1 with _ e2 _
      obtain rfl : n = 0 := e2
      have EC : Hid (pre ++ [U] = T.chain) := by show _ = _; rw [← H4.out, chain_none ht]
      clear h7 ht
      go_wp2_with fail
      go_ret
      exact ⟨_, ps, rfl, H5.out, EC.out ▸ H6.out, H8.out⟩
    | cons a l =>
      have h7 := H7.out
      rw [ht] at h7
      obtain ⟨_, _, e1, _, rd⟩ := h7.reads
      injection e1 with e0 e2 e3
      subst e0
      obtain ⟨ad, hA, ca⟩ := rd (by simp [sls])
      subst hA
      have c0 : wr.cell? ad = some (.string (S a)) := ca 0 _ rfl
      have hn : (0 : Int) < n := by rw [e2]; simp [sls]
      have hn' : 0 < n := by omega
      obtain ⟨V, hV, hs⟩ := step_cons ht
      have C := turn_calls false a U (S a) q wr rfl H3.out
      rw [hV] at C
      have C := Lib.hid C
      have PH := Lib.hid (step_phi hs)
      have EC : Hid ((pre ++ [U]) ++ V.chain = T.chain) := by show _ = _; rw [← H4.out, chain_step hs]; simp
      have LP : Hid (ps.length < 1000000) := by
        show _ < _
        have h1 := H6.out.1
        have h2 := congrArg List.length EC.out
        have h3 := CL.out
        simp at h1 h2; omega
      clear h7 e2 e3 rd ca ht hV hs
      go_wp2_with fail
      refine C.out.mono ?_
      rintro e w2 ⟨x2, p2, rfl, r2⟩
      have R2 := Lib.hid r2
      have X2 := Lib.hid (H8.out.trans x2)
      have O2 := (H5.out.ext x2).ext ((Ext.refl _).alloc (.cells #[.pointer p2] 91))
      have RS2 := Lib.hid (((H6.out.ext x2).snoc r2).ext ((Ext.refl _).alloc (.cells #[.pointer p2] 91)))
      clear x2 r2
      have RL := Lib.hid (Own.lit w2 0 91 #[.pointer p2] (Nat.zero_le _) (by show 1 ≤ maxLen; decide)).reads
      have LT : Hid (((ptrs ps).length + (ptrs [p2]).length) * 8 ≤ 140737488355328) := by show _ ≤ _; rw [ptrs_length]; have := LP.out; show (_ + 1) * 8 ≤ _; omega
      have B1 := Lib.hid (X2.out.alloc (.cells #[.pointer p2] 91)).size
      go_wp2_with (at_builtin; refine wpList_app rfl (.tmp 22) (.tmp 24) 122 rfl w.heap.size 91 (.pointer none) 8 Try.underlying122 infoNode rfl (by omega) _ _ _ (ptrs [p2]) rfl rfl O2 RL.out (ptrs_one _) LT.out B1.out ?_; intro v3 w3 o3 g3 _)
      have R3 := Lib.hid ((R2.out.ext ((Ext.refl _).alloc (.cells #[.pointer p2] 91))).row O2 (by decide) g3)
      have RS3 := Lib.hid (RS2.out.row O2 (by decide) g3)
      have X3 := Lib.hid ((X2.out.alloc _).grown g3 O2.lo)
      rw [ptrs_append] at o3
      have O3 := Lib.hid o3
      clear o3 g3 O2
      go_wp2_with fail
      refine (turns_calls false V (by have := HR.out.2; have := PH.out.2; have := H2.out; omega) p2 _ R3.out).mono ?_
      rintro e w4 ⟨v4, rfl, o4, x4⟩
      obtain ⟨A4, n4, c4, rfl⟩ : ∃ A n c, v4 = .slice A n c := by obtain ⟨A, c, e, _⟩ := o4.reads; exact ⟨A, _, c, e⟩
      have O4 := Lib.hid o4
      have X4 := Lib.hid x4
      clear o4 x4
      go_wp2_with fail
      go_roundg V.phi
      case measure => have := H1.out; have := PH.out.1; omega
      case rel => exact ⟨V, p2, pre ++ [U], ps ++ [p2], A4, n4, c4, _, rfl, rfl, rfl, by show _ ≤ _; have := PH.out.2; have := H2.out; omega, R3.out.ext X4.out, EC.out, O3.out.ext X4.out, RS3.out.ext X4.out, O4.out, X3.out.trans X4.out⟩

set_option maxHeartbeats 3200000 in
set_option maxRecDepth 100000 in
theorem brChain_calls (T : Tr) (hT : T.carets ≤ 50) (w : World) :
    Calls Try.prog 123 #[.string (tx T)] w fun e w' => ∃ v, e = .returned v ∧ Own w' w.heap.size 9 v (strs (T.chain.map tx)) ∧ Ext w w' := by
  have HT := Lib.hid hT
  have CL : Hid (T.chain.length < 1000000) := by
    show _ < _; have := chain_length T; have : T.carets * T.carets ≤ 50 * 50 := Nat.mul_le_mul hT hT; omega
  clear hT
  go_enter Try.func123, Try.ntmps123
  go_wp2_with fail
  have O0 := Lib.hid (Own.lit w w.heap.size 9 #[.string (tx T)] (Nat.le_refl _) (by show 1 ≤ maxLen; decide))
  have X0 := Lib.hid ((Ext.refl w).alloc (.cells #[.string (tx T)] 9))
  have CP := fun (U : Tr) (h : U.carets ≤ 50) w => brPlaces_calls false U [] ⟨#[]⟩ w h (by simp; omega) rfl
  simp only [brPl_nil] at CP
  refine (CP T HT.out _).mono ?_
  rintro e w1 ⟨v1, rfl, o1, x1⟩
  obtain ⟨A1, n1, c1, rfl⟩ : ∃ A n c, v1 = .slice A n c := by obtain ⟨A, c, e, _⟩ := o1.reads; exact ⟨A, _, c, e⟩
  have O1 := Lib.hid o1
  have X1 := Lib.hid (X0.out.trans x1)
  have OX := Lib.hid (O0.out.ext x1)
  clear o1 x1
  go_wp2_with fail
  go_loopg [0, 3, 4] T.phi (fun f t o l wr => ∃ (U : Tr) (pre : List Tr) (A : Option Addr) (n c b : Nat), t = .string (tx U) ∧ l = .slice A n c ∧ Hid (U.phi = f) ∧ Hid (U.carets ≤ 50) ∧ Hid (pre ++ U.chain = T.chain) ∧
      Hid (Own wr w.heap.size 9 o (strs ((pre ++ [U]).map tx))) ∧ Hid (Own wr b 9 (.slice A n c) (sls (U.turns false))) ∧ Hid (Ext w wr) ∧ Hid (∀ k, o.ownBlock = some k → k < b))
  case atStart => exact ⟨T, [], A1, n1, c1, _, rfl, rfl, rfl, HT.out, rfl, OX.out, O1.out, X1.out, fun k hk => (O0.out.block k hk).2⟩
  case round =>
    obtain ⟨U, pre, A, n, c, b, rfl, rfl, H1, H2, H4, H5, H7, H8, H9⟩ := hrel
    cases ht : U.turns false with
    | nil =>
      have h7 := H7.out
      rw [ht] at h7
      obtain ⟨_, _, e1, _⟩ := h7.reads
      injection e1 with _ e2 _
      obtain rfl : n = 0 := e2
      have EC : Hid (pre ++ [U] = T.chain) := by show _ = _; rw [← H4.out, chain_none ht]
      clear h7 ht
      go_wp2_with fail
      go_ret
      exact ⟨_, rfl, EC.out ▸ H5.out, H8.out⟩
    | cons a l =>
      have h7 := H7.out
      rw [ht] at h7
      obtain ⟨_, _, e1, _, rd⟩ := h7.reads
      injection e1 with e0 e2 e3
      subst e0
      obtain ⟨ad, hA, ca⟩ := rd (by simp [sls])
      subst hA
      have c0 : wr.cell? ad = some (.string (S a)) := ca 0 _ rfl
      have hn : (0 : Int) < n := by rw [e2]; simp [sls]
      have hn' : 0 < n := by omega
      obtain ⟨V, hV, hs⟩ := step_cons ht
      have C := brAt_calls false a U (S a) wr H2.out rfl
      rw [hV] at C
      have C := Lib.hid C
      have PH := Lib.hid (step_phi hs)
      have EC : Hid ((pre ++ [U]) ++ V.chain = T.chain) := by show _ = _; rw [← H4.out, chain_step hs]; simp
      have LP : Hid ((strs ((pre ++ [U]).map tx)).length < 1000000) := by
        show _ < _
        have h2 := congrArg List.length EC.out
        have h3 := CL.out
        rw [strs_length, List.length_map]
        simp at h2 ⊢; omega
      clear h7 e2 e3 rd ca ht hV hs
      go_wp2_with fail
      refine C.out.mono ?_
      rintro e w2 ⟨⟨m, rfl⟩, rfl⟩
      have X2 := Lib.hid (H8.out.drewN m)
      have O2 := (H5.out.ext ((Ext.refl _).drewN m)).ext ((Ext.refl _).alloc (.cells #[.string (tx V)] 9))
      have RL := Lib.hid (Own.lit (wr.drewN m) 0 9 #[.string (tx V)] (Nat.zero_le _) (by show 1 ≤ maxLen; decide)).reads
      have LT : Hid (((strs ((pre ++ [U]).map tx)).length + (strs [tx V]).length) * 16 ≤ 140737488355328) := by show _ ≤ _; have := LP.out; show (_ + 1) * 16 ≤ _; omega
      have B1 := Lib.hid (X2.out.alloc (.cells #[.string (tx V)] 9)).size
      go_wp2_with (at_builtin; refine wpList_app rfl (.tmp 22) (.tmp 24) 52 rfl w.heap.size 9 (.string ⟨#[]⟩) 16 Try.underlying52 infoStr rfl (by omega) _ _ _ (strs [tx V]) rfl rfl O2 RL.out (strs_one _) LT.out B1.out ?_; intro v3 w3 o3 g3 _)
      have X3 := Lib.hid ((X2.out.alloc _).grown g3 O2.lo)
      rw [strs_append] at o3
      have O3 : Hid (Own w3 w.heap.size 9 v3 (strs (((pre ++ [U]) ++ [V]).map tx))) := Lib.hid (by simpa using o3)
      clear o3 g3 O2
      go_wp2_with fail
      refine (CP V (by have := PH.out.2; have := H2.out; omega) _).mono ?_
      rintro e w4 ⟨v4, rfl, o4, x4⟩
      obtain ⟨A4, n4, c4, rfl⟩ : ∃ A n c, v4 = .slice A n c := by obtain ⟨A, c, e, _⟩ := o4.reads; exact ⟨A, _, c, e⟩
      have O4 := Lib.hid o4
      have X4 := Lib.hid x4
      clear o4 x4
      go_wp2_with fail
      go_roundg V.phi
      case measure => have := H1.out; have := PH.out.1; omega
      case rel => exact ⟨V, pre ++ [U], A4, n4, c4, _, rfl, rfl, rfl, by show _ ≤ _; have := PH.out.2; have := H2.out; omega, EC.out, O3.out.ext X4.out, O4.out, X3.out.trans X4.out, fun k hk => (O3.out.block k hk).2⟩

theorem specChain_yes (T : Tr) (hT : T.carets ≤ 8) (w : World) :
    Calls Try.prog 47 #[.string (tx T)] w (GivesLS w (T.chain.map tx) true) := by
  have C1 := Lib.hid (trIs_yes T hT w)
  have C2 := Lib.hid (brChain_calls T (by omega) w)
  clear hT
  go_enter Try.func47, Try.ntmps47
  go_wp2_with fail
  refine (C1.out).mono ?_
  rintro e w1 ⟨rfl, rfl⟩
  go_wp2_with fail
  refine (C2.out).mono ?_
  rintro e w1 ⟨v, rfl, o, x⟩
  go_wp2_with fail
  go_ret2
  exact ⟨v, rfl, o, x⟩
theorem specChain_no (s : ByteArray) (hT : ¬ ∃ T, s = tx T ∧ T.carets ≤ 8) (w : World) :
    Calls Try.prog 47 #[.string s] w (GivesLS w [] false) := by
  have C1 := Lib.hid (trIs_no s hT w)
  clear hT
  go_enter Try.func47, Try.ntmps47
  go_wp2_with fail
  refine (C1.out).mono ?_
  rintro e w1 ⟨rfl, rfl⟩
  go_wp2_with fail
  go_ret2
  exact ⟨_, rfl, Own.nil _ _ _, Ext.refl _⟩
theorem implChain_yes (T : Tr) (hT : T.carets ≤ 8) (w : World) :
    Calls Try.prog 46 #[.string (tx T)] w (GivesLS w (T.chain.map tx) true) := by
  have C1 := Lib.hid (parse_yes T w hT)
  have C2 := fun p w h => chain_calls T (by omega) p w h
  have CL : Hid (T.chain.length < 1000000 ∧ ∀ U ∈ T.chain, U.carets < 1000000) := by
    refine ⟨?_, fun U hU => by have := chain_carets hU; omega⟩
    have := chain_length T; have : T.carets * T.carets ≤ 8 * 8 := Nat.mul_le_mul hT hT; omega
  clear hT
  go_enter Try.func46, Try.ntmps46
  go_wp2_with fail
  refine C1.out.mono ?_
  rintro e w1 ⟨p, rfl, hp, hx⟩
  have H := Lib.hid (And.intro hp hx)
  clear hp hx
  go_wp2_with fail
  refine (C2 _ _ H.out.1).mono ?_
  rintro e w2 ⟨v, ps, rfl, o, r, x⟩
  have H2 := Lib.hid (And.intro o (And.intro r x))
  clear o r x
  go_wp2_with fail
  refine (textsOf_calls T.chain ps v _ CL.out.1 CL.out.2 H2.out.1.reads H2.out.2.1).mono ?_
  rintro e w1 ⟨v3, rfl, o3, x3⟩
  go_wp2_with fail
  go_ret2
  have x := H.out.2.trans H2.out.2.2
  exact ⟨v3, rfl, o3.mono x.size, x.trans x3⟩
theorem implChain_no (s : ByteArray) (hT : ¬ ∃ T, s = tx T ∧ T.carets ≤ 8) (w : World) :
    Calls Try.prog 46 #[.string s] w (GivesLS w [] false) := by
  have C1 := Lib.hid (parse_no s w hT)
  clear hT
  go_enter Try.func46, Try.ntmps46
  go_wp2_with fail
  refine (C1.out).mono ?_
  rintro e w1 ⟨rfl, x⟩
  go_wp2_with fail
  go_ret2
  exact ⟨_, rfl, Own.nil _ _ _, x⟩

end Go.Proofs.Ytpmmajfdcicjiaa.N
/- Two pairs read. -/
namespace Go.Proofs.Ytpmmajfdcicjiaa.N
open Go.RowKit
set_option linter.unusedVariables false
set_option linter.unusedSimpArgs false

def TwoPost (w : World) (s1 t1 s2 t2 : ByteArray) (e : Ending) (w' : World) : Prop := ∃ pa pb pc pd b, e = .returned (.tuple #[.agg #[.pointer pa, .pointer pb], .agg #[.pointer pc, .pointer pd], .bool b]) ∧ Ext w w' ∧
  Hid (b = true → ∃ A B C D, s1 = tx A ∧ t1 = tx B ∧ s2 = tx C ∧ t2 = tx D ∧ A.carets = B.carets ∧ B.carets ≤ 8 ∧ C.carets = D.carets ∧ D.carets ≤ 8 ∧ Rep w' A pa ∧ Rep w' B pb ∧ Rep w' C pc ∧ Rep w' D pd) ∧ Hid (b = false → ¬ (Good s1 t1 ∧ Good s2 t2))
set_option maxHeartbeats 3200000 in
set_option maxRecDepth 100000 in
theorem two_calls (s1 t1 s2 t2 : ByteArray) (w : World) :
    Calls Try.prog 115 #[.agg #[.string s1, .string t1], .agg #[.string s2, .string t2]] w (TwoPost w s1 t1 s2 t2) := by
  have C1 := Lib.hid (pairOf_calls s1 t1)
  have C2 := Lib.hid (pairOf_calls s2 t2)
  let W0 := ((w.alloc (.cells #[.string s1, .string t1] 25)).alloc (.cells #[.string s2, .string t2] 25)).alloc (.cells #[.pointer none, .pointer none] 93)
  have X4 := Lib.hid (((((Ext.refl w).alloc (.cells #[.string s1, .string t1] 25)).alloc (.cells #[.string s2, .string t2] 25)).alloc (.cells #[.pointer none, .pointer none] 93)).alloc (.cells #[.pointer none, .pointer none] 93))
  have c0 : (W0.alloc (.cells #[.pointer none, .pointer none] 93)).cell? ⟨w.heap.size + 1, 0, none⟩ = some (.string s2) := by simp only [W0]; go_simp
  have c1 : (W0.alloc (.cells #[.pointer none, .pointer none] 93)).cell? ⟨w.heap.size + 1, 1, none⟩ = some (.string t2) := by simp only [W0]; go_simp
  have t0 := (Two.new ((w.alloc (.cells #[.string s1, .string t1] 25)).alloc (.cells #[.string s2, .string t2] 25)) (n := w.heap.size + 1 + 1) (.pointer none) (.pointer none) 93 (by simp)).ext ((Ext.refl _).alloc (.cells #[.pointer none, .pointer none] 93))
  have t1' := Two.new W0 (n := w.heap.size + 1 + 1 + 1) (.pointer none) (.pointer none) 93 (by simp [W0])
  have SZ : w.heap.size + 1 + 1 + 1 < (W0.alloc (.cells #[.pointer none, .pointer none] 93)).heap.size := by simp [W0]
  simp only [W0] at c0 c1 t1' SZ
  clear W0
  go_enter Try.func115, Try.ntmps115
  go_wp2_with fail
  generalize (((w.alloc (.cells #[.string s1, .string t1] 25)).alloc (.cells #[.string s2, .string t2] 25)).alloc (.cells #[.pointer none, .pointer none] 93)).alloc (.cells #[.pointer none, .pointer none] 93) = W at *
  refine (C1.out _).mono ?_
  rintro e w1 ⟨pa, pb, b1, rfl, x1, y1, n1⟩
  have d0 := (x1.alloc (.cells #[.pointer pa, .pointer pb] 93)).cell c0
  have d1 := (x1.alloc (.cells #[.pointer pa, .pointer pb] 93)).cell c1
  have B1 := heap_alloc_new w1 (.cells #[.pointer pa, .pointer pb] 93)
  have X1 := Lib.hid (x1.alloc (.cells #[.pointer pa, .pointer pb] 93))
  have SX := Lib.hid x1.size
  clear c0 c1 x1
  have XW := Lib.hid ((Ext.refl w1).alloc (.cells #[.pointer pa, .pointer pb] 93))
  have B1 := Lib.hid B1
  go_wp2_with fail
  have SZ1 : w.heap.size + 1 + 1 + 1 < w1.heap.size := Nat.lt_of_lt_of_le SZ SX.out
  generalize w1.alloc (.cells #[.pointer pa, .pointer pb] 93) = W1 at *
  refine (C2.out _).mono ?_
  rintro e w2 ⟨pc, pd, b2, rfl, x2, y2, n2⟩
  have B2 := heap_alloc_new w2 (.cells #[.pointer pc, .pointer pd] 93)
  have X2 := Lib.hid (x2.alloc (.cells #[.pointer pc, .pointer pd] 93))
  have B1' := X2.out.at B1.out
  have SZ2 : w1.heap.size < w2.heap.size := Nat.lt_of_lt_of_le (Array.getElem?_eq_some_iff.1 B1.out).1 x2.size
  have E1 := XW.out.trans X2.out
  have e0 := (t0.ext X1.out).ext X2.out
  have e1 := (t1'.ext X1.out).ext X2.out
  obtain ⟨g0, g1, g2, g3, g4, g5⟩ := e0.facts
  obtain ⟨l0, l1, l2, l3, l4, l5⟩ := e1.facts
  have E0 := Lib.hid e0
  have E1' := Lib.hid e1
  clear e0 e1 t0 t1' d0 d1
  obtain ⟨k0, k1⟩ := cells_of B1'
  obtain ⟨k2, k3⟩ := cells_of B2
  have Q2 := Lib.hid ((Ext.refl w2).alloc (.cells #[.pointer pc, .pointer pd] 93))
  have n1' : w1.heap.size ≠ w.heap.size + 1 + 1 := by omega
  have n2' : w1.heap.size ≠ w.heap.size + 1 + 1 + 1 := by omega
  have n3' : w2.heap.size ≠ w.heap.size + 1 + 1 := by omega
  have n4' : w2.heap.size ≠ w.heap.size + 1 + 1 + 1 := by omega
  clear B1' B2 E1 B1 SX SZ1 SZ2 SZ
  go_wp2_with fail
  generalize w2.alloc (.cells #[.pointer pc, .pointer pd] 93) = W2 at *
  have EN : Hid (∀ b, ((b1 && b2) = b) → ∀ a W, a.defers = [] → a.tmps[6]? = some (.bool b) → a.tmps[4]? = some (.pointer (some ⟨w.heap.size + 1 + 1, 0, none⟩)) → a.tmps[5]? = some (.pointer (some ⟨w.heap.size + 1 + 1 + 1, 0, none⟩)) →
      W = (N.set2 (N.set2 W2 (w.heap.size + 1 + 1) (.pointer pa) (.pointer pb)) (w.heap.size + 1 + 1 + 1) (.pointer pc) (.pointer pd)).drew → bodyPost Try.prog Try.f115 (TwoPost w s1 t1 s2 t2) .ret a W) := by
    intro b hb a W hd ha h4 h5 hW
    have F0 := E0.out
    have F1 : Two (N.set2 W2 (w.heap.size + 1 + 1) (.pointer pa) (.pointer pb)) (w.heap.size + 1 + 1 + 1) 93 := by
      obtain ⟨u, v, e⟩ := E1'.out
      exact ⟨u, v, by rw [set2_other (by omega)]; exact e⟩
    have H1 := set2_heap F1 (.pointer pc) (.pointer pd)
    have H0 : (N.set2 (N.set2 W2 (w.heap.size + 1 + 1) (.pointer pa) (.pointer pb)) (w.heap.size + 1 + 1 + 1) (.pointer pc) (.pointer pd)).heap[w.heap.size + 1 + 1]? = some (.cells #[.pointer pa, .pointer pb] 93) := by
      rw [set2_other (by omega)]; exact set2_heap F0 (.pointer pa) (.pointer pb)
    have XX := ((((X4.out.trans X1.out).trans X2.out).set2 (g := w.heap.size + 1 + 1) (by omega) (.pointer pa) (.pointer pb)).set2 (g := w.heap.size + 1 + 1 + 1) (by omega) (.pointer pc) (.pointer pd)).drew
    have RR : ∀ T p, Rep W2 T p → Rep W T p := by
      intro T p h
      subst hW
      exact (Rep.set2 F1 (by decide) _ _ (Rep.set2 F0 (by decide) _ _ h)).ext (Ext.refl _).drew
    obtain ⟨q0, q1⟩ := cells_of H0
    obtain ⟨q2, q3⟩ := cells_of H1
    rw [← hW] at XX
    have q0 : W.cell? ⟨w.heap.size + 1 + 1, 0, none⟩ = some (.pointer pa) := by rw [hW]; exact q0
    have q1 : W.cell? ⟨w.heap.size + 1 + 1, 1, none⟩ = some (.pointer pb) := by rw [hW]; exact q1
    have q2 : W.cell? ⟨w.heap.size + 1 + 1 + 1, 0, none⟩ = some (.pointer pc) := by rw [hW]; exact q2
    have q3 : W.cell? ⟨w.heap.size + 1 + 1 + 1, 1, none⟩ = some (.pointer pd) := by rw [hW]; exact q3
    refine bodyPost_ret (v := .tuple #[.agg #[.pointer pa, .pointer pb], .agg #[.pointer pc, .pointer pd], .bool b]) ?_ hd ⟨_, _, _, _, _, rfl, XX, ?_, ?_⟩
    · simp [results, Try.results115, go_sem, q0, q1, q2, q3, ha, h4, h5]
    · intro hbt
      subst hbt
      rw [Bool.and_eq_true] at hb
      obtain ⟨A, B, e1, e2, e3, e4, r1, r2⟩ := y1.out hb.1
      obtain ⟨C, D, f1, f2, f3, f4, r3, r4⟩ := y2.out hb.2
      have E := XW.out.trans X2.out
      have E2 := Q2.out
      exact ⟨A, B, C, D, e1, e2, f1, f2, e3, e4, f3, f4, RR _ _ (r1.ext E), RR _ _ (r2.ext E), RR _ _ (r3.ext E2), RR _ _ (r4.ext E2)⟩
    · intro hbf
      subst hbf
      rintro ⟨G1, G2⟩
      cases b1 with
      | false => exact n1.out rfl G1
      | true =>
        cases b2 with
        | false => exact n2.out rfl G2
        | true => cases hb
  clear y1 y2 n1 n2 X4 X1 XW X2 E0 E1' Q2
  cases b1 <;> cases b2
  all_goals
    go_region
    go_wp2_with fail
  case false.false => exact EN.out false rfl _ _ rfl rfl rfl rfl rfl
  case false.true => exact EN.out false rfl _ _ rfl rfl rfl rfl rfl
  case true.false => exact EN.out false rfl _ _ rfl rfl rfl rfl rfl
  case true.true => exact EN.out true rfl _ _ rfl rfl rfl rfl rfl

theorem two_yes (A B C D : Tr) (hc : A.carets = B.carets) (hB : B.carets ≤ 8) (hd : C.carets = D.carets) (hD : D.carets ≤ 8) (w : World) : Calls Try.prog 115 #[.agg #[.string (tx A), .string (tx B)], .agg #[.string (tx C), .string (tx D)]] w fun e w' => ∃ pa pb pc pd, e = .returned (.tuple #[.agg #[.pointer pa, .pointer pb], .agg #[.pointer pc, .pointer pd], .bool true]) ∧ Rep w' A pa ∧ Rep w' B pb ∧ Rep w' C pc ∧ Rep w' D pd ∧ Ext w w' := by
  refine (two_calls _ _ _ _ w).mono ?_
  rintro e w1 ⟨pa, pb, pc, pd, b, rfl, x1, y1, n1⟩
  cases b with
  | false => exact absurd ⟨⟨A, B, rfl, rfl, hc, hB⟩, ⟨C, D, rfl, rfl, hd, hD⟩⟩ (n1.out rfl)
  | true =>
    obtain ⟨A', B', C', D', h1, h2, h3, h4, _, _, _, _, rA, rB, rC, rD⟩ := y1.out rfl
    obtain rfl := tx_inj h1
    obtain rfl := tx_inj h2
    obtain rfl := tx_inj h3
    obtain rfl := tx_inj h4
    exact ⟨pa, pb, pc, pd, rfl, rA, rB, rC, rD, x1⟩
theorem two_no (s1 t1 s2 t2 : ByteArray) (h : ¬ (Good s1 t1 ∧ Good s2 t2)) (w : World) : Calls Try.prog 115 #[.agg #[.string s1, .string t1], .agg #[.string s2, .string t2]] w fun e w' => ∃ pa pb pc pd, e = .returned (.tuple #[.agg #[.pointer pa, .pointer pb], .agg #[.pointer pc, .pointer pd], .bool false]) ∧ Ext w w' := by
  refine (two_calls _ _ _ _ w).mono ?_
  rintro e w1 ⟨pa, pb, pc, pd, b, rfl, x1, y1, n1⟩
  cases b with
  | false => exact ⟨pa, pb, pc, pd, rfl, x1⟩
  | true =>
    obtain ⟨A', B', C', D', h1, h2, h3, h4, g1, g2, g3, g4, rA, rB, rC, rD⟩ := y1.out rfl
    exact absurd ⟨⟨A', B', h1, h2, g1, g2⟩, ⟨C', D', h3, h4, g3, g4⟩⟩ h
end Go.Proofs.Ytpmmajfdcicjiaa.N
