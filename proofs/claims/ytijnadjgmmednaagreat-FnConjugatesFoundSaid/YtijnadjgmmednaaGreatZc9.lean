import Derived.Deep.CutRange
import Derived.Test.YtijnadjgmmednaaGreatZc7
/- A part of the proof: lemmas that later parts use. -/
set_option linter.unusedVariables false
set_option linter.unusedSimpArgs false
namespace Go.Proofs.YtijnadjgmmednaaGreat.N
open Go.RowKit
def pb (x y : ByteArray) (b : Bool) : Value := .tuple #[.agg #[.string x, .string y], .bool b]
end Go.Proofs.YtijnadjgmmednaaGreat.N
namespace Go.Proofs.YtijnadjgmmednaaGreat.N
open Go.RowKit
theorem prUnit_calls (w : World) : Calls Tryz.prog 72 #[] w fun e w' => e = .returned (.agg #[.string (tx .leaf), .string (tx .leaf)]) ∧ Ext w w' := by
  have X1 := Lib.hid ((Ext.refl w).alloc (.cells #[.string ⟨#[46]⟩, .string ⟨#[46]⟩] 25))
  obtain ⟨hc0, hc1⟩ := cells_of (heap_alloc_new w (.cells #[.string ⟨#[46]⟩, .string ⟨#[46]⟩] 25))
  go_enter Tryz.func72, Tryz.ntmps72
  go_wp2_with fail
  exact bodyPost_ret (v := .agg #[.string ⟨#[46]⟩, .string ⟨#[46]⟩]) (by simp [results, Tryz.results72, go_sem, hc0, hc1]) rfl ⟨rfl, X1.out⟩
theorem Two.far {w : World} {g k : Nat} {t : TypeId} (h : Two w k t) (hk : k ≠ g) (a b : Value) : Two (set2 w g a b) k t := let ⟨u, v, e⟩ := h.at_; ⟨u, v, (set2_other hk a b).trans e⟩
end Go.Proofs.YtijnadjgmmednaaGreat.N
namespace Go.Proofs.YtijnadjgmmednaaGreat.N
open Go.RowKit
def cjW : List Int → Tr × Tr → Option (Tr × Tr)
  | [], p => some p
  | n :: l, p => if 8 < (conj p (letP n)).1.carets then none else cjW l (conj p (letP n))
def CwV (o : Option (Tr × Tr)) : Value := match o with
  | some p => pb (tx p.1) (tx p.2) true
  | none => pb ⟨#[]⟩ ⟨#[]⟩ false
theorem cjW_step (xs : List Int) (j : Nat) (x : Int) (hx : xs[j]? = some x) (p : Tr × Tr) : cjW (xs.drop j) p = if 8 < (conj p (letP x)).1.carets then none else cjW (xs.drop (j + 1)) (conj p (letP x)) := by
  obtain ⟨h1, h2⟩ := List.getElem?_eq_some_iff.1 hx
  rw [List.drop_eq_getElem_cons h1, h2]; rfl
theorem boxP_facts (w : World) (s t : ByteArray) :
    Ext w ((w.alloc (.cells #[.string s, .string t] 25)).alloc (.cells #[.string ⟨#[]⟩, .string ⟨#[]⟩] 25)) ∧
    Two ((w.alloc (.cells #[.string s, .string t] 25)).alloc (.cells #[.string ⟨#[]⟩, .string ⟨#[]⟩] 25)) w.heap.size 25 ∧
    Two ((w.alloc (.cells #[.string s, .string t] 25)).alloc (.cells #[.string ⟨#[]⟩, .string ⟨#[]⟩] 25)) (w.heap.size + 1) 25 ∧
    ((w.alloc (.cells #[.string s, .string t] 25)).alloc (.cells #[.string ⟨#[]⟩, .string ⟨#[]⟩] 25)).heap[w.heap.size]? = some (.cells #[.string s, .string t] 25) :=
  ⟨((Ext.refl w).alloc _).alloc _, (Two.new w _ _ _ rfl).ext ((Ext.refl _).alloc _), Two.new _ _ _ _ (by simp), ((Ext.refl _).alloc _).at (heap_alloc_new w _)⟩
theorem Two.lt {w : World} {g : Nat} {t : TypeId} (h : Two w g t) : g < w.heap.size := let ⟨u, v, e⟩ := h.at_; (Array.getElem?_eq_some_iff.1 e).1
set_option maxHeartbeats 6400000 in
set_option maxRecDepth 100000 in
theorem implCW_yes (A B : Tr) (hc : A.carets = B.carets) (hB : B.carets ≤ 8) (xs : List Int) (hl : xs.length ≤ 6) (hT : TwoL xs) (v : Value) (w : World) (hv : Reads0 w v (ints xs)) :
    Calls Tryz.prog 19 #[.agg #[.string (tx A), .string (tx B)], v] w fun e w' => e = .returned (CwV (cjW xs (red (A, B)))) ∧ Ext w w' := by
  obtain ⟨X2, _, t1, _⟩ := boxP_facts w (tx A) (tx B)
  have X2 := Lib.hid X2
  have C1 := Lib.hid (fun W => pairOf_yes A B hc hB W)
  have C0 := Lib.hid (fun W (h : Ext w W) => areTwo_calls xs (by omega) v W (hv.ext h))
  rw [decide_eq_true hT] at C0
  have C2 := Lib.hid (fun pa pb W => reduced_calls A B (by omega) (by omega) pa pb W)
  have hs : Hid ((red (A, B)).1.carets = (red (A, B)).2.carets ∧ (red (A, B)).2.carets ≤ 8) := ⟨red_same (p := (A, B)) hc, by have := (red_le (A, B)).2; simp only at this; omega⟩
  have V := Lib.hid hv
  have HT := Lib.hid hT
  obtain ⟨AA, cc, rfl, _, _⟩ := hv
  rw [ints_length] at *
  have hl' : (xs.length : Int) ≤ 6 := by omega
  generalize hp : red (A, B) = p0 at *
  generalize tx A = a at *
  generalize tx B = b at *
  clear hT hc hB hp
  go_enter Tryz.func19, Tryz.ntmps19
  go_wp2_with fail
  generalize (w.alloc (.cells #[.string a, .string b] 25)).alloc (.cells #[.string ⟨#[]⟩, .string ⟨#[]⟩] 25) = W at *
  refine (C1.out _).mono ?_
  rintro e w1 ⟨p1, p2, rfl, rA, rB, x1⟩
  have xa := (Ext.refl w1).alloc (.cells #[.pointer p1, .pointer p2] 62)
  have RA := Lib.hid (rA.ext xa)
  have RB := Lib.hid (rB.ext xa)
  have X1 := Lib.hid (X2.out.trans (x1.trans xa))
  have T1 := Lib.hid (t1.ext (x1.trans xa))
  have T5 := Lib.hid (Two.new w1 (.pointer p1) (.pointer p2) 62 rfl)
  have G5 := Lib.hid (X2.out.trans x1).size
  have GN := Lib.hid (Nat.ne_of_lt (t1.ext x1).lt)
  obtain ⟨d0, d1⟩ := cells_of (heap_alloc_new w1 (.cells #[.pointer p1, .pointer p2] 62))
  clear rA rB t1 x1 xa
  go_wp2_with fail
  generalize w1.alloc (.cells #[.pointer p1, .pointer p2] 62) = W1 at *
  refine (C0.out _ X1.out).mono ?_
  rintro e w2 ⟨rfl, rfl⟩
  go_wp2_with fail
  refine (C2.out p1 p2 _ RA.out RB.out).mono ?_
  rintro e w2 ⟨q1, q2, rfl, r1, r2, x2⟩
  have T5' := T5.out.ext x2
  obtain ⟨u, v, k0, k1, f0, f1⟩ := T5'.facts
  have HB := Lib.hid (set2_heap T5' (.pointer q1) (.pointer q2))
  have R1 := Lib.hid (Rep.set2 T5' (by decide) (.pointer q1) (.pointer q2) r1)
  have R2 := Lib.hid (Rep.set2 T5' (by decide) (.pointer q1) (.pointer q2) r2)
  have T1 := Lib.hid ((T1.out.ext x2).far (g := w1.heap.size) GN.out (.pointer q1) (.pointer q2))
  have X3 := Lib.hid ((X1.out.trans x2).set2 (g := w1.heap.size) G5.out (.pointer q1) (.pointer q2))
  clear x2 r1 r2 T5' d0 d1 RA RB X1
  go_wp2_with fail
  change Code.wp _ _ _ _ (N.set2 w2 w1.heap.size (.pointer q1) (.pointer q2))
  generalize N.set2 w2 w1.heap.size (.pointer q1) (.pointer q2) = w3 at *
  clear k0 k1 f0 f1
  go_loopw [32] (fun i wr => ∃ (j : Nat) (C D : Tr) (q1 q2 : Option Addr), j ≤ xs.length ∧ i = .int .i64 j ∧ Hid (C.carets = D.carets ∧ D.carets ≤ 8) ∧ Hid (cjW xs p0 = cjW (xs.drop j) (C, D)) ∧ Hid (wr.heap[w1.heap.size]? = some (.cells #[.pointer q1, .pointer q2] 62)) ∧ Hid (Two wr (w.heap.size + 1) 25) ∧ Hid (Rep wr C q1) ∧ Hid (Rep wr D q2) ∧ Hid (Ext w wr)) (fun i _ => xs.length - (intOf i).toNat)
  case atStart => exact ⟨0, p0.1, p0.2, q1, q2, Nat.zero_le _, rfl, hs.out, rfl, HB.out, T1.out, R1.out, R2.out, X3.out⟩
  case round =>
    obtain ⟨j, C, D, q1, q2, hj, rfl, HS, HC, HB, HT1, HR1, HR2, HX⟩ := hrel
    obtain ⟨d0, d1⟩ := cells_of HB.out
    by_cases hlt : j < xs.length
    · have hx : xs[j]? = some xs[j] := List.getElem?_eq_getElem hlt
      obtain ⟨A1, c1, e1, _, rd⟩ := V.out.ext HX.out
      rw [ints_length] at *
      injection e1 with e1 _ e3
      subst e1 e3
      obtain ⟨ad, rfl, ca⟩ := rd (by omega)
      have c2 := ca j _ (ints_get xs j hlt)
      have h0 : (0 : Int) ≤ j := by omega
      have h1 : (j : Int) < xs.length := by omega
      have LT := HT.out _ (List.mem_of_getElem? hx)
      have ST := Lib.hid (cjW_step xs j _ hx (C, D))
      have CL := Lib.hid (fun W => letter_calls xs[j] ⟨LT.1, by omega, by omega⟩ W)
      have LC := letP_carets LT.1
      obtain ⟨m1, m2⟩ := conj_carets (p := (C, D)) (q := letP xs[j]) HS.out.1 (by omega)
      have CC := Lib.hid (fun l1 l2 W (h : Ext wr W) (g1 : Rep W (letP xs[j]).1 l1) (g2 : Rep W (letP xs[j]).2 l2) => conjugate_calls C D (letP xs[j]).1 (letP xs[j]).2 HS.out.1 (by omega) (by have := HS.out; omega) (by omega) q1 q2 l1 l2 W (HR1.out.ext h) (HR2.out.ext h) g1 g2)
      rw [show ((letP xs[j]).1, (letP xs[j]).2) = letP xs[j] from rfl] at CC
      have M := Lib.hid (And.intro m1 m2)
      have MB : Hid ((conj (C, D) (letP xs[j])).2.carets < 100) := by show _ < _; simp only at m2; have := HS.out; omega
      generalize conj (C, D) (letP xs[j]) = np at *
      generalize xs[j] = x at *
      generalize (letP x).1 = L1 at *
      generalize (letP x).2 = L2 at *
      clear rd ca hx LT LC m1 m2
      have TB : Hid (Two wr w1.heap.size 62) := ⟨_, _, HB.out⟩
      go_wp2_with fail
      rw [show Op.load 62 (Operand.tmp 6) = shy (Op.load 62 (Operand.tmp 6)) from rfl]
      go_region_held3 (fun w' => Ext w w')
        (first | with_reducible exact HX.out.drew | with_reducible exact HX.out.trans x2 | with_reducible exact HX.out.trans x3 | exact (HX.out.trans x3).set2 (g := w1.heap.size) G5.out _ _ | fail)
        (first
          | (go_at_call 51; refine (CL.out _).mono ?_; rintro e w5 ⟨l1, l2, rfl, rl1, rl2, hx2⟩; have x2 : Ext wr w5 := (Ext.refl wr).drew.trans hx2; have d0' := x2.cell d0; have d1' := x2.cell d1)
          | (go_at_call 39; refine (CC.out _ _ _ x2 rl1 rl2).mono ?_; rintro e w6 ⟨z1, z2, rfl, rz1, rz2, hx3⟩; have x3 := x2.trans hx3; obtain ⟨u, v, k0, k1, f0, f1⟩ := (TB.out.ext x3).facts)
          | fail)
      all_goals
        have TX := TB.out.ext x3
        have HH := Lib.hid (set2_heap TX (.pointer z1) (.pointer z2))
        have Q1 := Lib.hid (Rep.set2 TX (by decide) (.pointer z1) (.pointer z2) rz1)
        have Q2 := Lib.hid (Rep.set2 TX (by decide) (.pointer z1) (.pointer z2) rz2)
        have T1 := Lib.hid ((HT1.out.ext x3).far (g := w1.heap.size) GN.out (.pointer z1) (.pointer z2))
        have XX := Lib.hid ((HX.out.trans x3).set2 (g := w1.heap.size) G5.out (.pointer z1) (.pointer z2))
        change Exit.then _ _ _ _ (N.set2 w6 w1.heap.size (.pointer z1) (.pointer z2))
        obtain ⟨d0, d1⟩ := cells_of HH.out
        clear k0 k1 f0 f1 TX x3 x2 hx2 hx3 rz1 rz2 rl1 rl2 d0' d1'
        generalize N.set2 w6 w1.heap.size (.pointer z1) (.pointer z2) = w7 at *
        have CA := Lib.hid (carets_calls np.1 z1 w7 (by have := M.out.1; have := MB.out; omega) Q1.out)
        have bn : (0 : Int) ≤ np.1.carets := by omega
        go_wp2_with fail
        refine CA.out.mono ?_
        rintro e w8 ⟨rfl, n8, rfl⟩
        have xd : Ext w7 (w7.drewN n8) := (Ext.refl _).drewN _
        have XX := Lib.hid (XX.out.trans xd)
        have T1 := T1.out.ext xd
        obtain ⟨u, v, k0, k1, f0, f1⟩ := T1.facts
        have T1 := Lib.hid T1
        have HH := Lib.hid (xd.at HH.out)
        have Q1 := Lib.hid (Q1.out.ext xd)
        have Q2 := Lib.hid (Q2.out.ext xd)
        clear xd d0 d1
        generalize w7.drewN n8 = w8 at *
        by_cases h8 : (8 : Int) < np.1.carets
        · have EV : Hid (CwV (cjW xs p0) = pb ⟨#[]⟩ ⟨#[]⟩ false) := by show _ = _; rw [HC.out, ST.out, if_pos (by omega)]; rfl
          go_wp2_with fail
          have HH := set2_heap T1.out (.string ⟨#[]⟩) (.string ⟨#[]⟩)
          have XX := XX.out.set2 (g := w.heap.size + 1) (by omega) (.string ⟨#[]⟩) (.string ⟨#[]⟩)
          change bodyPost _ _ _ _ _ (N.set2 w8 (w.heap.size + 1) (.string ⟨#[]⟩) (.string ⟨#[]⟩))
          obtain ⟨hc0, hc1⟩ := cells_of HH
          generalize N.set2 w8 (w.heap.size + 1) (.string ⟨#[]⟩) (.string ⟨#[]⟩) = W3 at *
          exact bodyPost_ret (v := .tuple #[.agg #[.string ⟨#[]⟩, .string ⟨#[]⟩], .bool false]) (by simp [results, Tryz.results19, go_sem, hc0, hc1]) rfl ⟨by rw [EV.out]; rfl, XX⟩
        · have EV : Hid (cjW xs p0 = cjW (xs.drop (j + 1)) (np.1, np.2)) := by show _ = _; rw [HC.out, ST.out, if_neg (by omega)]
          clear k0 k1 f0 f1
          go_wp2_with fail
          exact ⟨⟨j + 1, np.1, np.2, z1, z2, by omega, by go_num, ⟨M.out.1, by have := M.out.1; omega⟩, EV.out, HH.out, T1.out, Q1.out, Q2.out, XX.out⟩, by simp [intOf]; omega⟩
    · have h1 : (xs.length : Int) ≤ j := by omega
      have EV : Hid (CwV (cjW xs p0) = pb (tx C) (tx D) true) := by show _ = _; rw [HC.out, List.drop_eq_nil_of_le (by omega)]; rfl
      have CP := Lib.hid (plain_calls C D (by have := HS.out; omega) (by have := HS.out; omega) q1 q2 wr HR1.out HR2.out)
      generalize tx C = rc at *
      generalize tx D = rd at *
      go_wp2_with fail
      refine CP.out.mono ?_
      rintro e w5 ⟨rfl, x5⟩
      have T1 := HT1.out.ext x5
      obtain ⟨u, v, k0, k1, f0, f1⟩ := T1.facts
      have T1 := Lib.hid T1
      have X5 := Lib.hid (HX.out.trans x5)
      clear x5 d0 d1
      go_wp2_with fail
      have HH := set2_heap T1.out (.string rc) (.string rd)
      have XX := X5.out.set2 (g := w.heap.size + 1) (by omega) (.string rc) (.string rd)
      change bodyPost _ _ _ _ _ (N.set2 w5 (w.heap.size + 1) (.string rc) (.string rd))
      obtain ⟨hc0, hc1⟩ := cells_of HH
      generalize N.set2 w5 (w.heap.size + 1) (.string rc) (.string rd) = W3 at *
      exact bodyPost_ret (v := .tuple #[.agg #[.string rc, .string rd], .bool true]) (by simp [results, Tryz.results19, go_sem, hc0, hc1]) rfl ⟨by rw [EV.out]; rfl, XX⟩
end Go.Proofs.YtijnadjgmmednaaGreat.N
namespace Go.Proofs.YtijnadjgmmednaaGreat.N
def parseT (s : ByteArray) : Option Tr := match rd (s.size + 1) s.toList with
  | some (T, []) => some T
  | _ => none
theorem parseT_tx (T : Tr) : parseT (tx T) = some T := by
  have hd := T.depth_le
  have hl := T.txt_length
  unfold parseT
  rw [show (tx T).toList = T.txt from S_toList _, rd_txt' T _ (by show T.depth < T.txt.length + 1; omega)]
theorem parseT_some {s : ByteArray} {T : Tr} (h : parseT s = some T) : s = tx T := by
  unfold parseT at h
  split at h
  · rename_i T' e
    injection h with h
    subst h
    have := (rd_some e).1
    rw [List.append_nil] at this
    rw [S_of s, this]; rfl
  · cases h
def pairT (s t : ByteArray) : Option (Tr × Tr) := match parseT s, parseT t with
  | some A, some B => if A.carets = B.carets ∧ B.carets ≤ 8 then some (A, B) else none
  | _, _ => none
theorem pairT_yes {A B : Tr} (h1 : A.carets = B.carets) (h2 : B.carets ≤ 8) : pairT (tx A) (tx B) = some (A, B) := by
  unfold pairT; rw [parseT_tx, parseT_tx]; exact if_pos ⟨h1, h2⟩
theorem pairT_some {s t : ByteArray} {p : Tr × Tr} (h : pairT s t = some p) : s = tx p.1 ∧ t = tx p.2 ∧ p.1.carets = p.2.carets ∧ p.2.carets ≤ 8 := by
  unfold pairT at h
  split at h
  · rename_i A B e1 e2
    split at h
    · rename_i hc
      injection h with h
      subst h
      exact ⟨parseT_some e1, parseT_some e2, hc.1, hc.2⟩
    · cases h
  · cases h
theorem pairT_cases (s t : ByteArray) : (∃ A B, s = tx A ∧ t = tx B ∧ A.carets = B.carets ∧ B.carets ≤ 8 ∧ pairT s t = some (A, B)) ∨ (¬ Good s t ∧ pairT s t = none) := by
  cases h : pairT s t with
  | some p => obtain ⟨a, b, c, d⟩ := pairT_some h; exact .inl ⟨p.1, p.2, a, b, c, d, rfl⟩
  | none =>
    refine .inr ⟨fun ⟨A, B, h1, h2, h3, h4⟩ => ?_, rfl⟩
    rw [h1, h2, pairT_yes h3 h4] at h
    cases h
def okP (p : Tr × Tr) : ByteArray × ByteArray × Bool := (tx p.1, tx p.2, true)
def noP : ByteArray × ByteArray × Bool := (⟨#[]⟩, ⟨#[]⟩, false)
def ifF (p : Tr × Tr) : ByteArray × ByteArray × Bool := if p.1.carets ≤ 8 then okP p else noP
def vP (r : ByteArray × ByteArray × Bool) : Value := .tuple #[.agg #[.string r.1, .string r.2.1], .bool r.2.2]
theorem ifP_vP (p : Tr × Tr) : ifP p = vP (ifF p) := by unfold ifP ifF; split <;> rfl
def anyT (m : Nat) (s t : ByteArray) : Option (Tr × Tr) := match parseT s, parseT t with
  | some A, some B => if A.carets = B.carets ∧ B.carets ≤ m then some (A, B) else none
  | _, _ => none
theorem anyT_yes {m : Nat} {A B : Tr} (h1 : A.carets = B.carets) (h2 : B.carets ≤ m) : anyT m (tx A) (tx B) = some (A, B) := by
  unfold anyT; rw [parseT_tx, parseT_tx]; exact if_pos ⟨h1, h2⟩
theorem anyT_some {m : Nat} {s t : ByteArray} {p : Tr × Tr} (h : anyT m s t = some p) : s = tx p.1 ∧ t = tx p.2 ∧ p.1.carets = p.2.carets ∧ p.2.carets ≤ m := by
  unfold anyT at h
  split at h
  · rename_i A B e1 e2
    split at h
    · rename_i hc
      injection h with h
      subst h
      exact ⟨parseT_some e1, parseT_some e2, hc.1, hc.2⟩
    · cases h
  · cases h
end Go.Proofs.YtijnadjgmmednaaGreat.N
namespace Go.Proofs.YtijnadjgmmednaaGreat.N
open Go.RowKit
def CwGood (s t : ByteArray) (xs : List Int) : Prop := Good s t ∧ xs.length ≤ 6 ∧ TwoL xs
set_option maxHeartbeats 3200000 in
set_option maxRecDepth 100000 in
theorem implCW_no (s t : ByteArray) (xs : List Int) (hxl : xs.length ≤ 1048576) (h : ¬ CwGood s t xs) (v : Value) (w : World) (hv : Reads0 w v (ints xs)) :
    Calls Tryz.prog 19 #[.agg #[.string s, .string t], v] w fun e w' => e = .returned (CwV none) ∧ Ext w w' := by
  obtain ⟨X2, _, t1, _⟩ := boxP_facts w s t
  have X2 := Lib.hid X2
  show Calls _ _ _ _ (fun e w' => e = .returned (pb ⟨#[]⟩ ⟨#[]⟩ false) ∧ Ext w w')
  unfold pb
  have C0 := Lib.hid (fun W (h : Ext w W) => areTwo_calls xs (by omega) v W (hv.ext h))
  obtain ⟨AA, cc, rfl, _, _⟩ := hv
  rw [ints_length] at *
  by_cases hg : Good s t
  · obtain ⟨A, B, rfl, rfl, h1, h2⟩ := hg
    have C1 := Lib.hid (fun W => pairOf_yes A B h1 h2 W)
    by_cases hl : xs.length ≤ 6
    · have hT : ¬ TwoL xs := fun hT => h ⟨⟨A, B, rfl, rfl, h1, h2⟩, hl, hT⟩
      rw [decide_eq_false hT] at C0
      have hl' : (xs.length : Int) ≤ 6 := by omega
      clear h1 h2 hT hl h
      generalize tx A = a at *
      generalize tx B = b at *
      go_enter Tryz.func19, Tryz.ntmps19
      go_wp2_with fail
      generalize (w.alloc (.cells #[.string a, .string b] 25)).alloc (.cells #[.string ⟨#[]⟩, .string ⟨#[]⟩] 25) = W at *
      refine (C1.out _).mono ?_
      rintro e w1 ⟨p1, p2, rfl, rA, rB, x1⟩
      have x1 := x1.alloc (.cells #[.pointer p1, .pointer p2] 62)
      have X1 := Lib.hid (X2.out.trans x1)
      have T1 := t1.ext x1
      obtain ⟨u, v, k0, k1, f0, f1⟩ := T1.facts
      have T1 := Lib.hid T1
      clear rA rB t1 x1
      go_wp2_with fail
      generalize w1.alloc (.cells #[.pointer p1, .pointer p2] 62) = W1 at *
      refine (C0.out _ X1.out).mono ?_
      rintro e w2 ⟨rfl, rfl⟩
      go_wp2_with fail
      have HH := set2_heap T1.out (.string ⟨#[]⟩) (.string ⟨#[]⟩)
      have XX := X1.out.set2 (g := w.heap.size + 1) (by omega) (.string ⟨#[]⟩) (.string ⟨#[]⟩)
      change bodyPost _ _ _ _ _ (N.set2 W1 (w.heap.size + 1) (.string ⟨#[]⟩) (.string ⟨#[]⟩))
      obtain ⟨hc0, hc1⟩ := cells_of HH
      generalize N.set2 W1 (w.heap.size + 1) (.string ⟨#[]⟩) (.string ⟨#[]⟩) = W3 at *
      exact bodyPost_ret (v := .tuple #[.agg #[.string ⟨#[]⟩, .string ⟨#[]⟩], .bool false]) (by simp [results, Tryz.results19, go_sem, hc0, hc1]) rfl ⟨rfl, XX⟩
    · have hl' : (6 : Int) < xs.length := by omega
      clear h1 h2 hl h C0
      generalize tx A = a at *
      generalize tx B = b at *
      go_enter Tryz.func19, Tryz.ntmps19
      go_wp2_with fail
      generalize (w.alloc (.cells #[.string a, .string b] 25)).alloc (.cells #[.string ⟨#[]⟩, .string ⟨#[]⟩] 25) = W at *
      refine (C1.out _).mono ?_
      rintro e w1 ⟨p1, p2, rfl, rA, rB, x1⟩
      have x1 := x1.alloc (.cells #[.pointer p1, .pointer p2] 62)
      have X1 := Lib.hid (X2.out.trans x1)
      have T1 := t1.ext x1
      obtain ⟨u, v, k0, k1, f0, f1⟩ := T1.facts
      have T1 := Lib.hid T1
      clear rA rB t1 x1
      go_wp2_with fail
      have HH := set2_heap T1.out (.string ⟨#[]⟩) (.string ⟨#[]⟩)
      have XX := X1.out.set2 (g := w.heap.size + 1) (by omega) (.string ⟨#[]⟩) (.string ⟨#[]⟩)
      change bodyPost _ _ _ _ _ (N.set2 (w1.alloc (.cells #[.pointer p1, .pointer p2] 62)) (w.heap.size + 1) (.string ⟨#[]⟩) (.string ⟨#[]⟩))
      obtain ⟨hc0, hc1⟩ := cells_of HH
      generalize N.set2 (w1.alloc (.cells #[.pointer p1, .pointer p2] 62)) (w.heap.size + 1) (.string ⟨#[]⟩) (.string ⟨#[]⟩) = W3 at *
      exact bodyPost_ret (v := .tuple #[.agg #[.string ⟨#[]⟩, .string ⟨#[]⟩], .bool false]) (by simp [results, Tryz.results19, go_sem, hc0, hc1]) rfl ⟨rfl, XX⟩
  · have C1 := Lib.hid (fun W => pairOf_no s t hg W)
    clear hg h C0
    go_enter Tryz.func19, Tryz.ntmps19
    go_wp2_with fail
    generalize (w.alloc (.cells #[.string s, .string t] 25)).alloc (.cells #[.string ⟨#[]⟩, .string ⟨#[]⟩] 25) = W at *
    refine (C1.out _).mono ?_
    rintro e w1 ⟨p1, p2, rfl, x1⟩
    have x1 := x1.alloc (.cells #[.pointer p1, .pointer p2] 62)
    have X1 := Lib.hid (X2.out.trans x1)
    have T1 := t1.ext x1
    obtain ⟨u, v, k0, k1, f0, f1⟩ := T1.facts
    have T1 := Lib.hid T1
    clear t1 x1
    go_wp2_with fail
    have HH := set2_heap T1.out (.string ⟨#[]⟩) (.string ⟨#[]⟩)
    have XX := X1.out.set2 (g := w.heap.size + 1) (by omega) (.string ⟨#[]⟩) (.string ⟨#[]⟩)
    change bodyPost _ _ _ _ _ (N.set2 (w1.alloc (.cells #[.pointer p1, .pointer p2] 62)) (w.heap.size + 1) (.string ⟨#[]⟩) (.string ⟨#[]⟩))
    obtain ⟨hc0, hc1⟩ := cells_of HH
    generalize N.set2 (w1.alloc (.cells #[.pointer p1, .pointer p2] 62)) (w.heap.size + 1) (.string ⟨#[]⟩) (.string ⟨#[]⟩) = W3 at *
    exact bodyPost_ret (v := .tuple #[.agg #[.string ⟨#[]⟩, .string ⟨#[]⟩], .bool false]) (by simp [results, Tryz.results19, go_sem, hc0, hc1]) rfl ⟨rfl, XX⟩
set_option maxHeartbeats 3200000 in
set_option maxRecDepth 100000 in
theorem specCW_no (s t : ByteArray) (xs : List Int) (hxl : xs.length ≤ 1048576) (h : ¬ CwGood s t xs) (v : Value) (w : World) (hv : Reads0 w v (ints xs)) :
    Calls Tryz.prog 20 #[.agg #[.string s, .string t], v] w fun e w' => e = .returned (CwV none) ∧ Ext w w' := by
  obtain ⟨X2, _, t1, _⟩ := boxP_facts w s t
  have X2 := Lib.hid X2
  show Calls _ _ _ _ (fun e w' => e = .returned (pb ⟨#[]⟩ ⟨#[]⟩ false) ∧ Ext w w')
  unfold pb
  have C0 := Lib.hid (fun W (h : Ext w W) => wdIs_calls xs 1 (by omega) (by omega) v W (hv.ext h))
  obtain ⟨AA, cc, rfl, _, _⟩ := hv
  rw [ints_length] at *
  by_cases hg : Good s t
  · obtain ⟨A, B, rfl, rfl, h1, h2⟩ := hg
    have C1 := Lib.hid (fun W => prGood_yes A B h1 h2 W)
    by_cases hl : xs.length ≤ 6
    · have hT : ¬ LetL 1 xs := fun hT => h ⟨⟨A, B, rfl, rfl, h1, h2⟩, hl, (LetL_two xs).1 hT⟩
      rw [decide_eq_false hT] at C0
      have hl' : (xs.length : Int) ≤ 6 := by omega
      clear h1 h2 hT hl h
      generalize tx A = a at *
      generalize tx B = b at *
      go_enter Tryz.func20, Tryz.ntmps20
      go_wp2_with fail
      generalize (w.alloc (.cells #[.string a, .string b] 25)).alloc (.cells #[.string ⟨#[]⟩, .string ⟨#[]⟩] 25) = W at *
      refine (C1.out _).mono ?_
      rintro e w1 ⟨rfl, x1⟩
      have X1 := Lib.hid (X2.out.trans x1)
      have T1 := t1.ext x1
      obtain ⟨u, v, k0, k1, f0, f1⟩ := T1.facts
      have T1 := Lib.hid T1
      clear t1 x1
      go_wp2_with fail
      refine (C0.out _ X1.out).mono ?_
      rintro e w2 ⟨rfl, rfl⟩
      go_wp2_with fail
      have HH := set2_heap T1.out (.string ⟨#[]⟩) (.string ⟨#[]⟩)
      have XX := X1.out.set2 (g := w.heap.size + 1) (by omega) (.string ⟨#[]⟩) (.string ⟨#[]⟩)
      change bodyPost _ _ _ _ _ (N.set2 w1 (w.heap.size + 1) (.string ⟨#[]⟩) (.string ⟨#[]⟩))
      obtain ⟨hc0, hc1⟩ := cells_of HH
      generalize N.set2 w1 (w.heap.size + 1) (.string ⟨#[]⟩) (.string ⟨#[]⟩) = W3 at *
      exact bodyPost_ret (v := .tuple #[.agg #[.string ⟨#[]⟩, .string ⟨#[]⟩], .bool false]) (by simp [results, Tryz.results20, go_sem, hc0, hc1]) rfl ⟨rfl, XX⟩
    · have hl' : (6 : Int) < xs.length := by omega
      clear h1 h2 hl h C0
      generalize tx A = a at *
      generalize tx B = b at *
      go_enter Tryz.func20, Tryz.ntmps20
      go_wp2_with fail
      generalize (w.alloc (.cells #[.string a, .string b] 25)).alloc (.cells #[.string ⟨#[]⟩, .string ⟨#[]⟩] 25) = W at *
      refine (C1.out _).mono ?_
      rintro e w1 ⟨rfl, x1⟩
      have X1 := Lib.hid (X2.out.trans x1)
      have T1 := t1.ext x1
      obtain ⟨u, v, k0, k1, f0, f1⟩ := T1.facts
      have T1 := Lib.hid T1
      clear t1 x1
      go_wp2_with fail
      have HH := set2_heap T1.out (.string ⟨#[]⟩) (.string ⟨#[]⟩)
      have XX := X1.out.set2 (g := w.heap.size + 1) (by omega) (.string ⟨#[]⟩) (.string ⟨#[]⟩)
      change bodyPost _ _ _ _ _ (N.set2 w1 (w.heap.size + 1) (.string ⟨#[]⟩) (.string ⟨#[]⟩))
      obtain ⟨hc0, hc1⟩ := cells_of HH
      generalize N.set2 w1 (w.heap.size + 1) (.string ⟨#[]⟩) (.string ⟨#[]⟩) = W3 at *
      exact bodyPost_ret (v := .tuple #[.agg #[.string ⟨#[]⟩, .string ⟨#[]⟩], .bool false]) (by simp [results, Tryz.results20, go_sem, hc0, hc1]) rfl ⟨rfl, XX⟩
  · have C1 := Lib.hid (fun W => prGood_no s t hg W)
    clear hg h C0
    go_enter Tryz.func20, Tryz.ntmps20
    go_wp2_with fail
    generalize (w.alloc (.cells #[.string s, .string t] 25)).alloc (.cells #[.string ⟨#[]⟩, .string ⟨#[]⟩] 25) = W at *
    refine (C1.out _).mono ?_
    rintro e w1 ⟨rfl, x1⟩
    have X1 := Lib.hid (X2.out.trans x1)
    have T1 := t1.ext x1
    obtain ⟨u, v, k0, k1, f0, f1⟩ := T1.facts
    have T1 := Lib.hid T1
    clear t1 x1
    go_wp2_with fail
    have HH := set2_heap T1.out (.string ⟨#[]⟩) (.string ⟨#[]⟩)
    have XX := X1.out.set2 (g := w.heap.size + 1) (by omega) (.string ⟨#[]⟩) (.string ⟨#[]⟩)
    change bodyPost _ _ _ _ _ (N.set2 w1 (w.heap.size + 1) (.string ⟨#[]⟩) (.string ⟨#[]⟩))
    obtain ⟨hc0, hc1⟩ := cells_of HH
    generalize N.set2 w1 (w.heap.size + 1) (.string ⟨#[]⟩) (.string ⟨#[]⟩) = W3 at *
    exact bodyPost_ret (v := .tuple #[.agg #[.string ⟨#[]⟩, .string ⟨#[]⟩], .bool false]) (by simp [results, Tryz.results20, go_sem, hc0, hc1]) rfl ⟨rfl, XX⟩
set_option maxHeartbeats 6400000 in
set_option maxRecDepth 100000 in
theorem specCW_yes (A B : Tr) (hc : A.carets = B.carets) (hB : B.carets ≤ 8) (xs : List Int) (hl : xs.length ≤ 6) (hT : TwoL xs) (v : Value) (w : World) (hv : Reads0 w v (ints xs)) :
    Calls Tryz.prog 20 #[.agg #[.string (tx A), .string (tx B)], v] w fun e w' => e = .returned (CwV (cjW xs (red (A, B)))) ∧ Ext w w' := by
  obtain ⟨X2, t0, t1, b0⟩ := boxP_facts w (tx A) (tx B)
  have X2 := Lib.hid X2
  have C1 := Lib.hid (fun W => prGood_yes A B hc hB W)
  have C0 := Lib.hid (fun W (h : Ext w W) => wdIs_calls xs 1 (by omega) (by omega) v W (hv.ext h))
  rw [decide_eq_true ((LetL_two xs).2 hT)] at C0
  have C2 := Lib.hid (fun W => prReduce_calls A B (by omega) (by omega) W)
  have hs : Hid ((red (A, B)).1.carets = (red (A, B)).2.carets ∧ (red (A, B)).2.carets ≤ 8) := ⟨red_same (p := (A, B)) hc, by have := (red_le (A, B)).2; simp only at this; omega⟩
  have V := Lib.hid hv
  have HT := Lib.hid hT
  obtain ⟨AA, cc, rfl, _, _⟩ := hv
  rw [ints_length] at *
  have hl' : (xs.length : Int) ≤ 6 := by omega
  generalize hp : red (A, B) = p0 at *
  generalize tx A = a at *
  generalize tx B = b at *
  clear hT hc hB hp
  go_enter Tryz.func20, Tryz.ntmps20
  go_wp2_with fail
  generalize (w.alloc (.cells #[.string a, .string b] 25)).alloc (.cells #[.string ⟨#[]⟩, .string ⟨#[]⟩] 25) = W at *
  refine (C1.out _).mono ?_
  rintro e w1 ⟨rfl, x1⟩
  have X1 := Lib.hid (X2.out.trans x1)
  have T1 := Lib.hid (t1.ext x1)
  have T0 := Lib.hid (t0.ext x1)
  obtain ⟨d0, d1⟩ := cells_of (x1.at b0)
  clear t1 x1 t0 b0
  go_wp2_with fail
  refine (C0.out _ X1.out).mono ?_
  rintro e w2 ⟨rfl, rfl⟩
  go_wp2_with fail
  refine (C2.out _).mono ?_
  rintro e w2 ⟨rfl, x2⟩
  have T0' := T0.out.ext x2
  obtain ⟨u, v, k0, k1, f0, f1⟩ := T0'.facts
  have HB := Lib.hid (set2_heap T0' (.string (tx p0.1)) (.string (tx p0.2)))
  have T1 := Lib.hid ((T1.out.ext x2).far (g := w.heap.size) (by omega) (.string (tx p0.1)) (.string (tx p0.2)))
  have X3 := Lib.hid ((X1.out.trans x2).set2 (g := w.heap.size) (Nat.le_refl _) (.string (tx p0.1)) (.string (tx p0.2)))
  clear x2 T0' d0 d1 X1
  go_wp2_with fail
  change Code.wp _ _ _ _ (N.set2 w2 w.heap.size (.string (tx p0.1)) (.string (tx p0.2)))
  generalize N.set2 w2 w.heap.size (.string (tx p0.1)) (.string (tx p0.2)) = w3 at *
  clear k0 k1 f0 f1
  go_loopw [26] (fun i wr => ∃ (j : Nat) (C D : Tr), j ≤ xs.length ∧ i = .int .i64 j ∧ Hid (C.carets = D.carets ∧ D.carets ≤ 8) ∧ Hid (cjW xs p0 = cjW (xs.drop j) (C, D)) ∧ Hid (wr.heap[w.heap.size]? = some (.cells #[.string (tx C), .string (tx D)] 25)) ∧ Hid (Two wr (w.heap.size + 1) 25) ∧ Hid (Ext w wr)) (fun i _ => xs.length - (intOf i).toNat)
  case atStart => exact ⟨0, p0.1, p0.2, Nat.zero_le _, rfl, hs.out, rfl, HB.out, T1.out, X3.out⟩
  case round =>
    obtain ⟨j, C, D, hj, rfl, HS, HC, HB, HT1, HX⟩ := hrel
    obtain ⟨d0, d1⟩ := cells_of HB.out
    by_cases hlt : j < xs.length
    · have hx : xs[j]? = some xs[j] := List.getElem?_eq_getElem hlt
      obtain ⟨A1, c1, e1, _, rd⟩ := V.out.ext HX.out
      rw [ints_length] at *
      injection e1 with e1 _ e3
      subst e1 e3
      obtain ⟨ad, rfl, ca⟩ := rd (by omega)
      have c2 := ca j _ (ints_get xs j hlt)
      have h0 : (0 : Int) ≤ j := by omega
      have h1 : (j : Int) < xs.length := by omega
      have LT := HT.out _ (List.mem_of_getElem? hx)
      have ST := Lib.hid (cjW_step xs j _ hx (C, D))
      have CL := Lib.hid (fun W => wdLetter_calls xs[j] ⟨LT.1, by omega, by omega⟩ W)
      have LC := letP_carets LT.1
      obtain ⟨m1, m2⟩ := conj_carets (p := (C, D)) (q := letP xs[j]) HS.out.1 (by omega)
      have CC := Lib.hid (fun W => cjBy_calls C D (letP xs[j]).1 (letP xs[j]).2 HS.out.1 (by omega) (by have := HS.out; omega) W)
      rw [show ((letP xs[j]).1, (letP xs[j]).2) = letP xs[j] from rfl] at CC
      have M := Lib.hid (And.intro m1 m2)
      have MB : Hid ((conj (C, D) (letP xs[j])).2.carets < 100) := by show _ < _; simp only at m2; have := HS.out; omega
      generalize conj (C, D) (letP xs[j]) = np at *
      generalize xs[j] = x at *
      generalize tx (letP x).1 = l1 at *
      generalize tx (letP x).2 = l2 at *
      clear rd ca hx LT LC m1 m2
      have TB : Hid (Two wr w.heap.size 25) := ⟨_, _, HB.out⟩
      generalize tx C = sc at *
      generalize tx D = sd at *
      obtain ⟨z1, hz1⟩ : ∃ z, z = tx np.1 := ⟨_, rfl⟩
      obtain ⟨z2, hz2⟩ : ∃ z, z = tx np.2 := ⟨_, rfl⟩
      rw [← hz1, ← hz2] at CC
      have HZ := Lib.hid (And.intro hz1 hz2)
      clear hz1 hz2
      go_wp2_with fail
      rw [show Op.load 25 (Operand.tmp 2) = shy (Op.load 25 (Operand.tmp 2)) from rfl]
      go_region_held3 (fun w' => Ext w w')
        (first | with_reducible exact HX.out.drew | with_reducible exact HX.out.trans x2 | with_reducible exact HX.out.trans x3 | exact (HX.out.trans x3).set2 (g := w.heap.size) (Nat.le_refl _) _ _ | fail)
        (first
          | (go_at_call 55; refine (CL.out _).mono ?_; rintro e w5 ⟨rfl, hx2⟩; have x2 : Ext wr w5 := (Ext.refl wr).drew.trans hx2; have d0' := x2.cell d0; have d1' := x2.cell d1)
          | (go_at_call 29; refine (CC.out _).mono ?_; rintro e w6 ⟨rfl, hx3⟩; have x3 := x2.trans hx3; obtain ⟨u, v, k0, k1, f0, f1⟩ := (TB.out.ext x3).facts)
          | fail)
      all_goals
        have TX := TB.out.ext x3
        have HH := Lib.hid (set2_heap TX (.string z1) (.string z2))
        have T1 := Lib.hid ((HT1.out.ext x3).far (g := w.heap.size) (by omega) (.string z1) (.string z2))
        have XX := Lib.hid ((HX.out.trans x3).set2 (g := w.heap.size) (Nat.le_refl _) (.string z1) (.string z2))
        change Exit.then _ _ _ _ (N.set2 w6 w.heap.size (.string z1) (.string z2))
        obtain ⟨d0, d1⟩ := cells_of HH.out
        clear k0 k1 f0 f1 TX x3 x2 hx2 hx3 d0' d1'
        generalize N.set2 w6 w.heap.size (.string z1) (.string z2) = w7 at *
        have CA := Lib.hid (trCarets_tree np.1 (by have := M.out.1; have := MB.out; omega) w7)
        rw [← HZ.out.1] at CA
        have bn : (0 : Int) ≤ np.1.carets := by omega
        have T1 := T1.out
        obtain ⟨u, v, k0, k1, f0, f1⟩ := T1.facts
        have T1 := Lib.hid T1
        go_wp2_with fail
        refine CA.out.mono ?_
        rintro e w8 ⟨rfl, rfl⟩
        by_cases h8 : (8 : Int) < np.1.carets
        · have EV : Hid (CwV (cjW xs p0) = pb ⟨#[]⟩ ⟨#[]⟩ false) := by show _ = _; rw [HC.out, ST.out, if_pos (by omega)]; rfl
          go_wp2_with fail
          have HH := set2_heap T1.out (.string ⟨#[]⟩) (.string ⟨#[]⟩)
          have XX := XX.out.set2 (g := w.heap.size + 1) (by omega) (.string ⟨#[]⟩) (.string ⟨#[]⟩)
          change bodyPost _ _ _ _ _ (N.set2 w7 (w.heap.size + 1) (.string ⟨#[]⟩) (.string ⟨#[]⟩))
          obtain ⟨hc0, hc1⟩ := cells_of HH
          generalize N.set2 w7 (w.heap.size + 1) (.string ⟨#[]⟩) (.string ⟨#[]⟩) = W3 at *
          exact bodyPost_ret (v := .tuple #[.agg #[.string ⟨#[]⟩, .string ⟨#[]⟩], .bool false]) (by simp [results, Tryz.results20, go_sem, hc0, hc1]) rfl ⟨by rw [EV.out]; rfl, XX⟩
        · have EV : Hid (cjW xs p0 = cjW (xs.drop (j + 1)) (np.1, np.2)) := by show _ = _; rw [HC.out, ST.out, if_neg (by omega)]
          have HH := Lib.hid (HZ.out.1 ▸ HZ.out.2 ▸ HH.out)
          clear k0 k1 f0 f1
          go_wp2_with fail
          exact ⟨⟨j + 1, np.1, np.2, by omega, by go_num, ⟨M.out.1, by have := M.out.1; omega⟩, EV.out, HH.out, T1.out, XX.out⟩, by simp [intOf]; omega⟩
    · have h1 : (xs.length : Int) ≤ j := by omega
      have EV : Hid (CwV (cjW xs p0) = pb (tx C) (tx D) true) := by show _ = _; rw [HC.out, List.drop_eq_nil_of_le (by omega)]; rfl
      generalize tx C = rc at *
      generalize tx D = rd at *
      have T1 := HT1.out
      obtain ⟨u, v, k0, k1, f0, f1⟩ := T1.facts
      have T1 := Lib.hid T1
      go_wp2_with fail
      have HH := set2_heap T1.out (.string rc) (.string rd)
      have XX := HX.out.set2 (g := w.heap.size + 1) (by omega) (.string rc) (.string rd)
      change bodyPost _ _ _ _ _ (N.set2 wr (w.heap.size + 1) (.string rc) (.string rd))
      obtain ⟨hc0, hc1⟩ := cells_of HH
      generalize N.set2 wr (w.heap.size + 1) (.string rc) (.string rd) = W3 at *
      exact bodyPost_ret (v := .tuple #[.agg #[.string rc, .string rd], .bool true]) (by simp [results, Tryz.results20, go_sem, hc0, hc1]) rfl ⟨by rw [EV.out]; rfl, XX⟩
end Go.Proofs.YtijnadjgmmednaaGreat.N
namespace Go.Proofs.YtijnadjgmmednaaGreat.N
open Go.RowKit
set_option maxHeartbeats 3200000 in
set_option maxRecDepth 100000 in
theorem ConjugatePair_yes (A B C D : Tr) (hc : A.carets = B.carets) (hB : B.carets ≤ 8) (hd : C.carets = D.carets) (hD : D.carets ≤ 8) (w : World) :
    Calls Tryz.prog 12 #[.agg #[.string (tx A), .string (tx B)], .agg #[.string (tx C), .string (tx D)]] w fun e w' => e = .returned (ifP (conj (A, B) (C, D))) ∧ Ext w w' := by
  obtain ⟨X2, t0⟩ := boxSS_facts w (tx A) (tx B) (tx C) (tx D) (.string ⟨#[]⟩) (.string ⟨#[]⟩) 25
  have X2 := Lib.hid X2
  have C1 := Lib.hid (two_yes A B C D hc hB hd hD)
  have C2 := Lib.hid (fun pa pb pc pd W => conjugate_calls A B C D hc hd (by omega) (by omega) pa pb pc pd W)
  obtain ⟨l1, l2⟩ := conj_carets (p := (A, B)) (q := (C, D)) hc hd
  have C3 := Lib.hid (fun pa pb W => fits_calls (conj (A, B) (C, D)).1 (conj (A, B) (C, D)).2 (by simp only at l2; omega) (by simp only at l2; omega) pa pb W)
  obtain ⟨s, t, b, hb⟩ := ifP_two (conj (A, B) (C, D))
  rw [show ((conj (A, B) (C, D)).1, (conj (A, B) (C, D)).2) = conj (A, B) (C, D) from rfl, hb] at C3
  rw [hb]
  clear hc hB hd hD l1 l2 hb
  go_enter Tryz.func12, Tryz.ntmps12
  go_wp2_with fail
  generalize ((w.alloc (.cells #[.string (tx A), .string (tx B)] 25)).alloc (.cells #[.string (tx C), .string (tx D)] 25)).alloc (.cells #[.string ⟨#[]⟩, .string ⟨#[]⟩] 25) = W at *
  refine (C1.out _).mono ?_
  rintro e w1 ⟨pa, pb, pc, pd, rfl, rA, rB, rC, rD, x1⟩
  have xx := ((Ext.refl w1).alloc (.cells #[.pointer pa, .pointer pb] 62)).alloc (.cells #[.pointer pc, .pointer pd] 62)
  have X1 := Lib.hid (x1.trans xx)
  have RA := Lib.hid (rA.ext xx)
  have RB := Lib.hid (rB.ext xx)
  have RC := Lib.hid (rC.ext xx)
  have RD := Lib.hid (rD.ext xx)
  have T0 := Lib.hid (t0.ext X1.out)
  clear rA rB rC rD t0 x1 xx
  go_wp2_with fail
  generalize (w1.alloc (.cells #[.pointer pa, .pointer pb] 62)).alloc (.cells #[.pointer pc, .pointer pd] 62) = W1 at *
  refine (C2.out pa pb pc pd _ RA.out RB.out RC.out RD.out).mono ?_
  rintro e w2 ⟨p1, p2, rfl, r1, r2, x2⟩
  have X2' := Lib.hid (X1.out.trans x2)
  have R1 := Lib.hid r1
  have R2 := Lib.hid r2
  clear r1 r2
  have T2 := Lib.hid (T0.out.ext x2)
  clear x2
  go_wp2_with fail
  refine (C3.out p1 p2 _ R1.out R2.out).mono ?_
  rintro e w3 ⟨rfl, x3⟩
  have X3 := Lib.hid (X2'.out.trans x3)
  have T3 := T2.out.ext x3
  obtain ⟨u, v, k0, k1, f0, f1⟩ := T3.facts
  have T3 := Lib.hid T3
  clear x3
  go_wp2_with fail
  have HH := set2_heap T3.out (.string s) (.string t)
  have XX := (X2.out.trans X3.out).set2 (g := w.heap.size + 1 + 1) (by omega) (.string s) (.string t)
  change bodyPost _ _ _ _ _ (N.set2 _ (w.heap.size + 1 + 1) (.string s) (.string t))
  obtain ⟨hc0, hc1⟩ := cells_of HH
  generalize N.set2 _ (w.heap.size + 1 + 1) (.string s) (.string t) = W3 at *
  exact bodyPost_ret (v := .tuple #[.agg #[.string s, .string t], .bool b]) (by simp [results, Tryz.results12, go_sem, hc0, hc1]) rfl ⟨rfl, XX⟩
set_option maxHeartbeats 3200000 in
set_option maxRecDepth 100000 in
theorem ConjugatePair_no (s1 t1 s2 t2 : ByteArray) (h : ¬ (Good s1 t1 ∧ Good s2 t2)) (w : World) :
    Calls Tryz.prog 12 #[.agg #[.string s1, .string t1], .agg #[.string s2, .string t2]] w fun e w' => e = .returned (.tuple #[emptyP, .bool false]) ∧ Ext w w' := by
  obtain ⟨X2, t0⟩ := boxSS_facts w s1 t1 s2 t2 (.string ⟨#[]⟩) (.string ⟨#[]⟩) 25
  have X2 := Lib.hid X2
  have C1 := Lib.hid (two_no s1 t1 s2 t2 h)
  clear h
  go_enter Tryz.func12, Tryz.ntmps12
  go_wp2_with fail
  generalize ((w.alloc (.cells #[.string s1, .string t1] 25)).alloc (.cells #[.string s2, .string t2] 25)).alloc (.cells #[.string ⟨#[]⟩, .string ⟨#[]⟩] 25) = W at *
  refine (C1.out _).mono ?_
  rintro e w1 ⟨pa, pb, pc, pd, rfl, x1⟩
  have X1 := Lib.hid ((x1.alloc (.cells #[.pointer pa, .pointer pb] 62)).alloc (.cells #[.pointer pc, .pointer pd] 62))
  have T3 := t0.ext X1.out
  obtain ⟨u, v, k0, k1, f0, f1⟩ := T3.facts
  have T3 := Lib.hid T3
  clear t0 x1
  go_wp2_with fail
  have HH := set2_heap T3.out (.string ⟨#[]⟩) (.string ⟨#[]⟩)
  have XX := (X2.out.trans X1.out).set2 (g := w.heap.size + 1 + 1) (by omega) (.string ⟨#[]⟩) (.string ⟨#[]⟩)
  change bodyPost _ _ _ _ _ (N.set2 _ (w.heap.size + 1 + 1) (.string ⟨#[]⟩) (.string ⟨#[]⟩))
  obtain ⟨hc0, hc1⟩ := cells_of HH
  generalize N.set2 _ (w.heap.size + 1 + 1) (.string ⟨#[]⟩) (.string ⟨#[]⟩) = W3 at *
  exact bodyPost_ret (v := .tuple #[emptyP, .bool false]) (by simp [results, Tryz.results12, go_sem, hc0, hc1, emptyP]) rfl ⟨rfl, XX⟩
set_option maxHeartbeats 3200000 in
set_option maxRecDepth 100000 in
theorem specConjugatePair_yes (A B C D : Tr) (hc : A.carets = B.carets) (hB : B.carets ≤ 8) (hd : C.carets = D.carets) (hD : D.carets ≤ 8) (w : World) :
    Calls Tryz.prog 16 #[.agg #[.string (tx A), .string (tx B)], .agg #[.string (tx C), .string (tx D)]] w fun e w' => e = .returned (ifP (conj (A, B) (C, D))) ∧ Ext w w' := by
  obtain ⟨X0, c0, c1, c2, c3, t0⟩ := boxQQ_facts w (.string (tx A)) (.string (tx B)) (.string (tx C)) (.string (tx D)) (.string ⟨#[]⟩) (.string ⟨#[]⟩) 25 25
  have X2 := Lib.hid X0
  have C1 := Lib.hid (fun W => prGood_yes A B hc hB W)
  have C2 := Lib.hid (fun W => prGood_yes C D hd hD W)
  have C3 := Lib.hid (fun W => cjBy_calls A B C D hc hd (by omega) W)
  obtain ⟨l1, l2⟩ := conj_carets (p := (A, B)) (q := (C, D)) hc hd
  have C4 := Lib.hid (fun W => prIf_calls (conj (A, B) (C, D)).1 (conj (A, B) (C, D)).2 l1 W)
  obtain ⟨s, t, bb, hb⟩ := ifP_two (conj (A, B) (C, D))
  rw [show ((conj (A, B) (C, D)).1, (conj (A, B) (C, D)).2) = conj (A, B) (C, D) from rfl, hb] at C4
  rw [hb]
  clear hc hB hd hD hb l1 l2 X0
  generalize tx (conj (A, B) (C, D)).1 = r1 at *
  generalize tx (conj (A, B) (C, D)).2 = r2 at *
  generalize tx A = a at *
  generalize tx B = b at *
  generalize tx C = c at *
  generalize tx D = d at *
  go_enter Tryz.func16, Tryz.ntmps16
  go_wp2_with fail
  generalize ((w.alloc (.cells #[.string a, .string b] 25)).alloc (.cells #[.string c, .string d] 25)).alloc (.cells #[.string ⟨#[]⟩, .string ⟨#[]⟩] 25) = W at *
  refine (C1.out _).mono ?_
  rintro e w1 ⟨rfl, x1⟩
  have c0 := x1.cell c0
  have c1 := x1.cell c1
  have c2 := x1.cell c2
  have c3 := x1.cell c3
  have X1 := Lib.hid (X2.out.trans x1)
  have T1 := Lib.hid (t0.ext x1)
  clear t0 x1
  go_wp2_with fail
  refine (C2.out _).mono ?_
  rintro e w2 ⟨rfl, x2⟩
  have c0 := x2.cell c0
  have c1 := x2.cell c1
  have c2 := x2.cell c2
  have c3 := x2.cell c3
  have X2' := Lib.hid (X1.out.trans x2)
  have T2 := Lib.hid (T1.out.ext x2)
  clear x2
  go_wp2_with fail
  refine (C3.out _).mono ?_
  rintro e w3 ⟨rfl, x3⟩
  have X3 := Lib.hid (X2'.out.trans x3)
  have T3 := Lib.hid (T2.out.ext x3)
  clear x3 c0 c1 c2 c3
  go_wp2_with fail
  refine (C4.out _).mono ?_
  rintro e w4 ⟨rfl, x4⟩
  have X4 := Lib.hid (X3.out.trans x4)
  have T4 := T3.out.ext x4
  obtain ⟨u, v, k0, k1, f0, f1⟩ := T4.facts
  have T4 := Lib.hid T4
  clear x4
  go_wp2_with fail
  have HH := set2_heap T4.out (.string s) (.string t)
  have XX := X4.out.set2 (g := w.heap.size + 1 + 1) (by omega) (.string s) (.string t)
  change bodyPost _ _ _ _ _ (N.set2 _ (w.heap.size + 1 + 1) (.string s) (.string t))
  obtain ⟨hc0, hc1⟩ := cells_of HH
  generalize N.set2 _ (w.heap.size + 1 + 1) (.string s) (.string t) = W3 at *
  exact bodyPost_ret (v := .tuple #[.agg #[.string s, .string t], .bool bb]) (by simp [results, Tryz.results16, go_sem, hc0, hc1]) rfl ⟨rfl, XX⟩
set_option maxHeartbeats 3200000 in
set_option maxRecDepth 100000 in
theorem specConjugatePair_no (s1 t1 s2 t2 : ByteArray) (h : ¬ (Good s1 t1 ∧ Good s2 t2)) (w : World) :
    Calls Tryz.prog 16 #[.agg #[.string s1, .string t1], .agg #[.string s2, .string t2]] w fun e w' => e = .returned (.tuple #[emptyP, .bool false]) ∧ Ext w w' := by
  obtain ⟨X2, t0⟩ := boxSS_facts w s1 t1 s2 t2 (.string ⟨#[]⟩) (.string ⟨#[]⟩) 25
  have X2 := Lib.hid X2
  have B1 : (((w.alloc (.cells #[.string s1, .string t1] 25)).alloc (.cells #[.string s2, .string t2] 25)).alloc (.cells #[.string ⟨#[]⟩, .string ⟨#[]⟩] 25)).heap[w.heap.size + 1]? = some (.cells #[.string s2, .string t2] 25) := ((Ext.refl _).alloc _).at (by
    have := heap_alloc_new (w.alloc (.cells #[.string s1, .string t1] 25)) (.cells #[.string s2, .string t2] 25)
    simpa using this)
  by_cases h1 : Good s1 t1
  · have h2 : ¬ Good s2 t2 := fun h2 => h ⟨h1, h2⟩
    obtain ⟨A, B, rfl, rfl, hc, hB⟩ := h1
    have C1 := Lib.hid (fun W => prGood_yes A B hc hB W)
    have C2 := Lib.hid (fun W => prGood_no _ _ h2 W)
    clear h h2 hc hB
    generalize tx A = a at *
    generalize tx B = b at *
    go_enter Tryz.func16, Tryz.ntmps16
    go_wp2_with fail
    generalize ((w.alloc (.cells #[.string a, .string b] 25)).alloc (.cells #[.string s2, .string t2] 25)).alloc (.cells #[.string ⟨#[]⟩, .string ⟨#[]⟩] 25) = W at *
    refine (C1.out _).mono ?_
    rintro e w1 ⟨rfl, x1⟩
    obtain ⟨c2, c3⟩ := cells_of (x1.at B1)
    have X1 := Lib.hid (X2.out.trans x1)
    have T1 := Lib.hid (t0.ext x1)
    clear t0 x1 B1
    go_wp2_with fail
    refine (C2.out _).mono ?_
    rintro e w2 ⟨rfl, x2⟩
    have T3 := T1.out.ext x2
    obtain ⟨u, v, k0, k1, f0, f1⟩ := T3.facts
    have T3 := Lib.hid T3
    have X3 := Lib.hid (X1.out.trans x2)
    clear x2
    go_wp2_with fail
    have HH := set2_heap T3.out (.string ⟨#[]⟩) (.string ⟨#[]⟩)
    have XX := X3.out.set2 (g := w.heap.size + 1 + 1) (by omega) (.string ⟨#[]⟩) (.string ⟨#[]⟩)
    change bodyPost _ _ _ _ _ (N.set2 _ (w.heap.size + 1 + 1) (.string ⟨#[]⟩) (.string ⟨#[]⟩))
    obtain ⟨hc0, hc1⟩ := cells_of HH
    generalize N.set2 _ (w.heap.size + 1 + 1) (.string ⟨#[]⟩) (.string ⟨#[]⟩) = W3 at *
    exact bodyPost_ret (v := .tuple #[emptyP, .bool false]) (by simp [results, Tryz.results16, go_sem, hc0, hc1, emptyP]) rfl ⟨rfl, XX⟩
  · have C1 := Lib.hid (fun W => prGood_no _ _ h1 W)
    clear h h1 B1
    go_enter Tryz.func16, Tryz.ntmps16
    go_wp2_with fail
    generalize ((w.alloc (.cells #[.string s1, .string t1] 25)).alloc (.cells #[.string s2, .string t2] 25)).alloc (.cells #[.string ⟨#[]⟩, .string ⟨#[]⟩] 25) = W at *
    refine (C1.out _).mono ?_
    rintro e w1 ⟨rfl, x1⟩
    have T3 := t0.ext x1
    obtain ⟨u, v, k0, k1, f0, f1⟩ := T3.facts
    have T3 := Lib.hid T3
    have X3 := Lib.hid (X2.out.trans x1)
    clear x1 t0
    go_wp2_with fail
    have HH := set2_heap T3.out (.string ⟨#[]⟩) (.string ⟨#[]⟩)
    have XX := X3.out.set2 (g := w.heap.size + 1 + 1) (by omega) (.string ⟨#[]⟩) (.string ⟨#[]⟩)
    change bodyPost _ _ _ _ _ (N.set2 _ (w.heap.size + 1 + 1) (.string ⟨#[]⟩) (.string ⟨#[]⟩))
    obtain ⟨hc0, hc1⟩ := cells_of HH
    generalize N.set2 _ (w.heap.size + 1 + 1) (.string ⟨#[]⟩) (.string ⟨#[]⟩) = W3 at *
    exact bodyPost_ret (v := .tuple #[emptyP, .bool false]) (by simp [results, Tryz.results16, go_sem, hc0, hc1, emptyP]) rfl ⟨rfl, XX⟩
end Go.Proofs.YtijnadjgmmednaaGreat.N
namespace Go.Proofs.YtijnadjgmmednaaGreat.N
open Go.RowKit
set_option maxHeartbeats 3200000 in
set_option maxRecDepth 100000 in
theorem ReducePair_yes (A B : Tr) (hc : A.carets = B.carets) (hB : B.carets ≤ 8) (w : World) :
    Calls Tryz.prog 45 #[.agg #[.string (tx A), .string (tx B)]] w fun e w' => e = .returned (.tuple #[.agg #[.string (tx (red (A, B)).1), .string (tx (red (A, B)).2)], .bool true]) ∧ Ext w w' := by
  obtain ⟨X2, t0⟩ := boxS_facts w (tx A) (tx B) (.string ⟨#[]⟩) (.string ⟨#[]⟩) 25
  have X2 := Lib.hid X2
  have C1 := Lib.hid (pairOf_yes A B hc hB)
  have C2 := Lib.hid (fun pa pb W ra rb => reduced_calls A B (by omega) (by omega) pa pb W ra rb)
  have LE : (red (A, B)).1.carets ≤ 8 ∧ (red (A, B)).2.carets ≤ 8 := by have := red_le (A, B); simp only at this; omega
  have C3 := Lib.hid (fun pa pb W (ra : Rep W (red (A, B)).1 pa) (rb : Rep W (red (A, B)).2 pb) => plain_calls (red (A, B)).1 (red (A, B)).2 (by omega) (by omega) pa pb W ra rb)
  generalize tx (red (A, B)).1 = s at *
  generalize tx (red (A, B)).2 = t at *
  clear hc hB LE
  go_enter Tryz.func45, Tryz.ntmps45
  go_wp2_with fail
  generalize (w.alloc (.cells #[.string (tx A), .string (tx B)] 25)).alloc (.cells #[.string ⟨#[]⟩, .string ⟨#[]⟩] 25) = W at *
  refine (C1.out _).mono ?_
  rintro e w1 ⟨pa, pb, rfl, rA, rB, x1⟩
  have X1 := Lib.hid (x1.alloc (.cells #[.pointer pa, .pointer pb] 62))
  have RA := Lib.hid (rA.ext ((Ext.refl w1).alloc (.cells #[.pointer pa, .pointer pb] 62)))
  have RB := Lib.hid (rB.ext ((Ext.refl w1).alloc (.cells #[.pointer pa, .pointer pb] 62)))
  have T0 := Lib.hid (t0.ext X1.out)
  clear rA rB t0 x1
  go_wp2_with fail
  generalize w1.alloc (.cells #[.pointer pa, .pointer pb] 62) = W1 at *
  refine (C2.out pa pb _ RA.out RB.out).mono ?_
  rintro e w2 ⟨p1, p2, rfl, r1, r2, x2⟩
  have X2' := Lib.hid (X1.out.trans x2)
  have R1 := Lib.hid r1
  have R2 := Lib.hid r2
  clear r1 r2
  have T2 := Lib.hid (T0.out.ext x2)
  clear x2
  go_wp2_with fail
  refine (C3.out p1 p2 _ R1.out R2.out).mono ?_
  rintro e w3 ⟨rfl, x3⟩
  have X3 := Lib.hid (X2'.out.trans x3)
  have T3 := T2.out.ext x3
  obtain ⟨u, v, k0, k1, f0, f1⟩ := T3.facts
  have T3 := Lib.hid T3
  clear x3
  go_wp2_with fail
  have HH := set2_heap T3.out (.string s) (.string t)
  have XX := (X2.out.trans X3.out).set2 (g := w.heap.size + 1) (by omega) (.string s) (.string t)
  change bodyPost _ _ _ _ _ (N.set2 _ (w.heap.size + 1) (.string s) (.string t))
  obtain ⟨hc0, hc1⟩ := cells_of HH
  generalize N.set2 _ (w.heap.size + 1) (.string s) (.string t) = W3 at *
  exact bodyPost_ret (v := .tuple #[.agg #[.string s, .string t], .bool true]) (by simp [results, Tryz.results45, go_sem, hc0, hc1]) rfl ⟨rfl, XX⟩
set_option maxHeartbeats 3200000 in
set_option maxRecDepth 100000 in
theorem InversePair_yes (A B : Tr) (hc : A.carets = B.carets) (hB : B.carets ≤ 8) (w : World) :
    Calls Tryz.prog 17 #[.agg #[.string (tx A), .string (tx B)]] w fun e w' => e = .returned (.tuple #[.agg #[.string (tx B), .string (tx A)], .bool true]) ∧ Ext w w' := by
  obtain ⟨X2, t0⟩ := boxS_facts w (tx A) (tx B) (.string ⟨#[]⟩) (.string ⟨#[]⟩) 25
  have X2 := Lib.hid X2
  have C1 := Lib.hid (pairOf_yes A B hc hB)
  have C2 := Lib.hid (fun pa pb W => inverse_calls pa pb W)
  have LE : B.carets ≤ 8 ∧ A.carets ≤ 8 := by omega
  have C3 := Lib.hid (fun pa pb W (ra : Rep W B pa) (rb : Rep W A pb) => plain_calls B A (by omega) (by omega) pa pb W ra rb)
  generalize tx B = s at *
  generalize tx A = t at *
  clear hc hB LE
  go_enter Tryz.func17, Tryz.ntmps17
  go_wp2_with fail
  generalize (w.alloc (.cells #[.string t, .string s] 25)).alloc (.cells #[.string ⟨#[]⟩, .string ⟨#[]⟩] 25) = W at *
  refine (C1.out _).mono ?_
  rintro e w1 ⟨pa, pb, rfl, rA, rB, x1⟩
  have X1 := Lib.hid (x1.alloc (.cells #[.pointer pa, .pointer pb] 62))
  have RA := Lib.hid (rA.ext ((Ext.refl w1).alloc (.cells #[.pointer pa, .pointer pb] 62)))
  have RB := Lib.hid (rB.ext ((Ext.refl w1).alloc (.cells #[.pointer pa, .pointer pb] 62)))
  have T0 := Lib.hid (t0.ext X1.out)
  clear rA rB t0 x1
  go_wp2_with fail
  generalize w1.alloc (.cells #[.pointer pa, .pointer pb] 62) = W1 at *
  refine (C2.out pa pb _).mono ?_
  rintro e w2 ⟨rfl, x2⟩
  have X2' := Lib.hid (X1.out.trans x2)
  obtain ⟨p1, h1⟩ : ∃ p1, p1 = pb := ⟨_, rfl⟩
  obtain ⟨p2, h2⟩ : ∃ p2, p2 = pa := ⟨_, rfl⟩
  have R1 := Lib.hid (RB.out.ext x2)
  have R2 := Lib.hid (RA.out.ext x2)
  rw [← h1] at R1 ⊢
  rw [← h2] at R2 ⊢
  clear h1 h2
  have T2 := Lib.hid (T0.out.ext x2)
  clear x2
  go_wp2_with fail
  refine (C3.out p1 p2 _ R1.out R2.out).mono ?_
  rintro e w3 ⟨rfl, x3⟩
  have X3 := Lib.hid (X2'.out.trans x3)
  have T3 := T2.out.ext x3
  obtain ⟨u, v, k0, k1, f0, f1⟩ := T3.facts
  have T3 := Lib.hid T3
  clear x3
  go_wp2_with fail
  have HH := set2_heap T3.out (.string s) (.string t)
  have XX := (X2.out.trans X3.out).set2 (g := w.heap.size + 1) (by omega) (.string s) (.string t)
  change bodyPost _ _ _ _ _ (N.set2 _ (w.heap.size + 1) (.string s) (.string t))
  obtain ⟨hc0, hc1⟩ := cells_of HH
  generalize N.set2 _ (w.heap.size + 1) (.string s) (.string t) = W3 at *
  exact bodyPost_ret (v := .tuple #[.agg #[.string s, .string t], .bool true]) (by simp [results, Tryz.results17, go_sem, hc0, hc1]) rfl ⟨rfl, XX⟩
end Go.Proofs.YtijnadjgmmednaaGreat.N
namespace Go.Proofs.YtijnadjgmmednaaGreat.N
open Go.RowKit
theorem lts_at {k : Nat} (h : k < 4) : ∃ x : Int, lts[k]? = some x ∧ x ≠ 0 ∧ -2 ≤ x ∧ x ≤ 2 := by
  rcases k with _ | _ | _ | _ | k
  · exact ⟨1, rfl, by decide, by decide⟩
  · exact ⟨-1, rfl, by decide, by decide⟩
  · exact ⟨2, rfl, by decide, by decide⟩
  · exact ⟨-2, rfl, by decide, by decide⟩
  · omega
theorem lts_bound {x : Int} (h : x ∈ lts) : x ≠ 0 ∧ -2 ≤ x ∧ x ≤ 2 := by
  unfold lts at h; simp at h; omega
theorem lit_readsZ (W : World) (x : Int) : Reads (W.alloc (.cells #[.int .i64 x] 3)) (.slice (some ⟨W.heap.size, 0, none⟩) 1 1) [.int .i64 x] := (Own.lit W 0 3 #[.int .i64 x] (Nat.zero_le _) (by show 1 ≤ maxLen; decide)).reads
set_option maxHeartbeats 12800000 in
set_option maxRecDepth 100000 in
theorem cjWords_calls (n : Nat) (hn : n ≤ 4) (w : World) :
    Calls Tryz.prog 61 #[.int .i64 n] w fun e w' => ∃ v, e = .returned v ∧ OwnR w' w.heap.size v (redWd n) ∧ Ext w w' := by
  have X1 := Lib.hid ((Ext.refl w).alloc (.cells #[.slice none 0 0] 28))
  have R1 : Hid (OwnR (w.alloc (.cells #[.slice none 0 0] 28)) w.heap.size (.slice (some ⟨w.heap.size, 0, none⟩) 1 1) (redWd 0)) := by
    refine ⟨[.slice none 0 0], Own.lit w w.heap.size 28 #[.slice none 0 0] (Nat.le_refl _) (by show 1 ≤ maxLen; decide), rfl, (by intro u hu; simp at hu; subst hu; rfl), fun r xs e => ?_⟩
    have : r = 0 ∧ xs = [] := by
      cases r with
      | zero => simp [redWd] at e; exact ⟨rfl, e⟩
      | succ r => simp [redWd] at e
    obtain ⟨rfl, rfl⟩ := this
    exact ⟨_, rfl, Own.nil _ _ 3⟩
  have hn' : (n : Int) ≤ 4 := by omega
  go_enter Tryz.func61, Tryz.ntmps61
  go_wp2_with fail
  generalize w.alloc (.cells #[.slice none 0 0] 28) = W at *
  go_loopw [4, 3] (fun i v wr => ∃ k : Nat, k ≤ n ∧ i = .int .i64 k ∧ Hid (OwnR wr w.heap.size v (redWd k)) ∧ Hid (Ext w wr)) (fun i _ _ => n - (intOf i).toNat)
  case atStart => exact ⟨0, Nat.zero_le _, rfl, R1.out, X1.out⟩
  case round =>
    obtain ⟨k, hk, rfl, HR, HX⟩ := hrel
    generalize wr = wk at *
    by_cases hlt : k < n
    · have h1 : (k : Int) < n := by omega
      have LE : Hid ((redWd k).length ≤ 256) := Nat.le_trans (redWd_length k) (Nat.pow_le_pow_right (by omega) (show k ≤ 4 by omega))
      have WD : Hid (∀ w ∈ redWd k, w.length ≤ 4 ∧ ∀ x ∈ w, x ∈ lts) := fun w hw => ⟨by have := (redWd_words hw).1; omega, (redWd_words hw).2⟩
      have EA : Hid (extsL (redWd k) (redWd k).length = redWd (k + 1)) := extsL_all k
      obtain ⟨A1, c1, rfl, _, rd⟩ := HR.out.reads.open
      have RD := Lib.hid rd
      have RM := Lib.hid HR.out
      clear rd
      generalize redWd k = L at *
      have LE' := LE.out
      go_wp2_with fail
      go_loopw [18, 5] (fun i v wj => ∃ (j : Nat), j ≤ L.length ∧ i = .int .i64 j ∧ Hid (OwnR wj wk.heap.size v (extsL L j)) ∧ Hid (Ext wk wj)) (fun i _ _ => L.length - (intOf i).toNat)
      case atStart => exact ⟨0, Nat.zero_le _, rfl, OwnR.nil _ _, Ext.refl _⟩
      case round =>
        obtain ⟨j, hj, rfl, HO, HY⟩ := hrel
        generalize wr = wj at *
        by_cases hjl : j < L.length
        · have h0 : (0 : Int) ≤ j := by omega
          have h2 : (j : Int) < L.length := by omega
          have hw : L[j]? = some L[j] := List.getElem?_eq_getElem hjl
          obtain ⟨ad, B, d, rfl, cj, rw1⟩ := RD.out j _ hw
          have cj := HY.out.cell cj
          have WJ := WD.out _ (List.mem_of_getElem? hw)
          have ES := Lib.hid (extsL_step hw)
          have RW := Lib.hid rw1
          generalize L[j] = ws at *
          have WL := WJ.1
          have WM := Lib.hid WJ.2
          clear WJ hw rw1
          go_wp2_with fail
          refine (lnLetters_calls _).mono ?_
          rintro e w2 ⟨c2, rfl, r2, x2⟩
          have R2 := Lib.hid (r2.mono HY.out.size)
          have X2 := Lib.hid (HY.out.trans x2)
          have O2 := Lib.hid (HO.out.ext x2)
          have BB := Lib.hid x2.size
          clear r2 x2 cj
          go_wp2_with fail
          go_loopw [24, 5] (fun i v wi => ∃ (q : Nat), q ≤ 4 ∧ i = .int .i64 q ∧ Hid (OwnR wi wk.heap.size v (extsL L j ++ exts ws q)) ∧ Hid (Ext wk wi) ∧ Hid (Own wi wk.heap.size 3 (.slice (some ⟨wj.heap.size, 0, none⟩) 4 c2) (ints lts))) (fun i _ _ => 4 - (intOf i).toNat)
          case atStart => exact ⟨0, by omega, rfl, (by rw [show exts ws 0 = [] from rfl, List.append_nil]; exact O2.out), X2.out, R2.out⟩
          case round =>
            obtain ⟨q, hq, rfl, HO2, HY2, HZ2⟩ := hrel
            have HL2 : Hid ((extsL L j ++ exts ws q).length ≤ 4 * 256 + 4) := by show _ ≤ _; have := extsL_length L j; have := exts_length ws q; have := LE.out; rw [List.length_append]; omega
            generalize wr = wi at *
            by_cases hq4 : q < 4
            · obtain ⟨x, hx, hx0, hx1, hx2⟩ := lts_at hq4
              have q0 : (0 : Int) ≤ q := by omega
              have q4 : (q : Int) < 4 := by omega
              obtain ⟨A3, c3, e3, _, rd3⟩ := HZ2.out.reads
              injection e3 with e4 e5 e6
              subst e4 e6
              obtain ⟨ad3, e7, ca3⟩ := rd3 (by simp [ints, lts])
              injection e7 with e7
              subst e7
              have cx := ca3 q _ (by rw [show (ints lts)[q]? = (lts[q]?).map fun x => Value.int .i64 x from by simp [ints], hx]; rfl)
              rw [add_plain] at cx
              have ST := Lib.hid (exts_step (w := ws) hx)
              have RW3 := Lib.hid (RW.out.ext HY2.out)
              have RO : Hid (Reads wi (.slice B ws.length d) (ints ws)) := RW3.out
              have LW : Hid (ws.length ≤ 4) := WL
              clear ca3 rd3 e5
              cases hws : ws.getLast? with
              | none =>
                obtain rfl : ws = [] := List.getLast?_eq_none_iff.1 hws
                have hok : okL ([] : List Int) x = true := rfl
                have ST2 : Hid (exts ([] : List Int) (q + 1) = exts ([] : List Int) q ++ [([] : List Int) ++ [x]]) := by show _ = _; rw [ST.out, hok]; simp
                go_wp2_with fail
                refine (l1OwnZ_calls ([] : List Int) (by have := LW.out; omega) _ _ RO.out).mono ?_
                rintro e w5 ⟨v5, rfl, o5, x5⟩
                have O5 := o5.ext ((Ext.refl w5).alloc (.cells #[.int .i64 x] 3))
                have R5 := lit_readsZ w5 x
                have L5 : Hid (((ints ([] : List Int)).length + (ints [x]).length) * 8 ≤ 140737488355328) := by show _ ≤ _; rw [ints_length, ints_length]; simp only [List.length_singleton]; have := LW.out; omega
                have B5 := Lib.hid (x5.alloc (.cells #[.int .i64 x] 3)).size
                have E5 : Hid (ints ([] : List Int) ++ ints [x] = ints (([] : List Int) ++ [x])) := by simp [Hid, ints]
                have Z5 := Lib.hid (x5.alloc (.cells #[.int .i64 x] 3))
                clear o5 x5
                go_wp2_with (first
                  | (at_builtin; refine wpList_app rfl (.tmp 44) (.tmp 46) 28 rfl wi.heap.size 3 (.int .i64 0) 8 Tryz.underlying28 infoInt rfl (by omega) _ _ _ (ints [x]) rfl rfl O5 R5 (ints_one _) L5.out B5.out ?_; intro v6 w6 o6 g6 _; have X6 := Z5.out.grown g6 O5.lo; rw [E5.out] at o6; obtain ⟨A6, n6, c6, rfl⟩ : ∃ A n c, v6 = .slice A n c := (let ⟨A, c, e, _⟩ := o6.reads; ⟨A, _, c, e⟩); have hone : (Value.slice A6 n6 c6).oneCell' = true := rfl; have XA6 : Ext wi (w6.alloc (.cells #[.slice A6 n6 c6] 28)) := X6.alloc _; obtain ⟨us, oa, ol, o1, orr⟩ := HO2.out.ext XA6; have LT8 := (HZ2.out.ext XA6); have hu := (o6.ext ((Ext.refl w6).alloc (.cells #[.slice A6 n6 c6] 28))).mono (HY2.out.size); have R7 := (Own.lit w6 0 28 #[.slice A6 n6 c6] (Nat.zero_le _) (by show 1 ≤ maxLen; decide)).reads; have L7 : Hid ((us.length + ([.slice A6 n6 c6] : List Value).length) * 24 ≤ 140737488355328) := (by show _ ≤ _; rw [ol]; simp only [List.length_singleton]; have := HL2.out; omega); have B7 := Lib.hid (HY2.out.trans XA6).size; clear O5 R5 g6)
                  | (at_builtin; refine wpList_app rfl (.tmp 42) (.tmp 48) 89 rfl wk.heap.size 28 (.slice none 0 0) 24 Tryz.underlying89 infoRow rfl (by omega) _ _ _ [.slice A6 n6 c6] rfl rfl oa R7 (vals_one _ hone) L7.out B7.out ?_; intro v8 w8 o8 g8 _))
                have O8 := Lib.hid (OwnR.snoc oa ol o1 orr hu o8 g8 hone)
                have X8 := Lib.hid ((HY2.out.trans XA6).grown g8 oa.lo)
                have LT9 := Lib.hid (LT8.apart oa (by decide) g8)
                clear o6 X6 XA6 oa ol o1 orr LT8 hu R7 o8 g8
                go_wp2_with fail
                exact ⟨⟨_, _, .int .i64 ((q + 1 : Nat) : Int), ⟨q + 1, by omega, rfl, (by rw [ST2.out, ← List.append_assoc]; exact O8.out), X8.out, LT9.out⟩, rfl, rfl, by go_num⟩, by simp [intOf]; omega⟩
              | some y =>
                obtain ⟨u, rfl⟩ : ∃ u, ws = u ++ [y] := ⟨ws.dropLast, by
                  have h0 : ws ≠ [] := by intro h; rw [h] at hws; simp at hws
                  rw [List.getLast?_eq_some_getLast h0] at hws
                  injection hws with hws
                  rw [← hws, List.dropLast_concat_getLast]⟩
                obtain ⟨p, hp⟩ : ∃ p, u.length = p := ⟨_, rfl⟩
                have hl : (u ++ [y]).length = p + 1 := by simp [hp]
                have hk : okL (u ++ [y]) x = (y != -x) := by
                  unfold okL
                  rw [List.getLast?_append]
                  rfl
                obtain ⟨A5, c5, e5, _, rd5⟩ := RO.out
                rw [ints_length] at e5 rd5
                injection e5 with e6 e7 e8
                subst e6 e8
                obtain ⟨ad5, rfl, ca5⟩ := rd5 (by omega)
                have cy := ca5 p (.int .i64 y) (by simp [ints, ← hp])
                have p0 : (0 : Int) ≤ p := by omega
                have p4 : p ≤ 4 := by omega
                have yb := lts_bound (WM.out y (by simp))
                have RO := Lib.hid RO.out
                rw [hl] at RO
                have RO := RO.out
                rw [hl]
                clear e7 ca5 rd5 hws
                cases hok : (y != -x) with
                | false =>
                  rw [hok] at hk
                  have ST2 : Hid (exts (u ++ [y]) (q + 1) = exts (u ++ [y]) q) := by show _ = _; rw [ST.out, hk]; simp
                  go_wp2_with fail
                  exact ⟨⟨q + 1, by omega, by go_num, by rw [ST2.out]; exact HO2.out, HY2.out, HZ2.out⟩, by simp [intOf]; omega⟩
                | true =>
                  rw [hok] at hk
                  have ST2 : Hid (exts (u ++ [y]) (q + 1) = exts (u ++ [y]) q ++ [(u ++ [y]) ++ [x]]) := by show _ = _; rw [ST.out, hk]; simp
                  go_wp2_with fail
                  rw [← hl] at RO ⊢
                  refine (l1OwnZ_calls (u ++ [y]) (by have := LW.out; omega) _ _ RO).mono ?_
                  rintro e w5 ⟨v5, rfl, o5, x5⟩
                  have O5 := o5.ext ((Ext.refl w5).alloc (.cells #[.int .i64 x] 3))
                  have R5 := lit_readsZ w5 x
                  have L5 : Hid (((ints (u ++ [y])).length + (ints [x]).length) * 8 ≤ 140737488355328) := by show _ ≤ _; rw [ints_length, ints_length]; simp only [List.length_singleton]; have := LW.out; omega
                  have B5 := Lib.hid (x5.alloc (.cells #[.int .i64 x] 3)).size
                  have E5 : Hid (ints (u ++ [y]) ++ ints [x] = ints ((u ++ [y]) ++ [x])) := by simp [Hid, ints]
                  have Z5 := Lib.hid (x5.alloc (.cells #[.int .i64 x] 3))
                  clear o5 x5
                  go_wp2_with (first
                    | (at_builtin; refine wpList_app rfl (.tmp 44) (.tmp 46) 28 rfl wi.heap.size 3 (.int .i64 0) 8 Tryz.underlying28 infoInt rfl (by omega) _ _ _ (ints [x]) rfl rfl O5 R5 (ints_one _) L5.out B5.out ?_; intro v6 w6 o6 g6 _; have X6 := Z5.out.grown g6 O5.lo; rw [E5.out] at o6; obtain ⟨A6, n6, c6, rfl⟩ : ∃ A n c, v6 = .slice A n c := (let ⟨A, c, e, _⟩ := o6.reads; ⟨A, _, c, e⟩); have hone : (Value.slice A6 n6 c6).oneCell' = true := rfl; have XA6 : Ext wi (w6.alloc (.cells #[.slice A6 n6 c6] 28)) := X6.alloc _; obtain ⟨us, oa, ol, o1, orr⟩ := HO2.out.ext XA6; have LT8 := (HZ2.out.ext XA6); have hu := (o6.ext ((Ext.refl w6).alloc (.cells #[.slice A6 n6 c6] 28))).mono (HY2.out.size); have R7 := (Own.lit w6 0 28 #[.slice A6 n6 c6] (Nat.zero_le _) (by show 1 ≤ maxLen; decide)).reads; have L7 : Hid ((us.length + ([.slice A6 n6 c6] : List Value).length) * 24 ≤ 140737488355328) := (by show _ ≤ _; rw [ol]; simp only [List.length_singleton]; have := HL2.out; omega); have B7 := Lib.hid (HY2.out.trans XA6).size; clear O5 R5 g6)
                    | (at_builtin; refine wpList_app rfl (.tmp 42) (.tmp 48) 89 rfl wk.heap.size 28 (.slice none 0 0) 24 Tryz.underlying89 infoRow rfl (by omega) _ _ _ [.slice A6 n6 c6] rfl rfl oa R7 (vals_one _ hone) L7.out B7.out ?_; intro v8 w8 o8 g8 _))
                  have O8 := Lib.hid (OwnR.snoc oa ol o1 orr hu o8 g8 hone)
                  have X8 := Lib.hid ((HY2.out.trans XA6).grown g8 oa.lo)
                  have LT9 := Lib.hid (LT8.apart oa (by decide) g8)
                  clear o6 X6 XA6 oa ol o1 orr LT8 hu R7 o8 g8
                  go_wp2_with fail
                  exact ⟨⟨q + 1, by omega, by go_num, by rw [ST2.out, ← List.append_assoc]; exact O8.out, X8.out, LT9.out⟩, by simp [intOf]; omega⟩
            · have q4 : ¬ (q : Int) < 4 := by omega
              obtain rfl : q = 4 := by omega
              have EE := HO2.out
              rw [← ES.out] at EE
              have EE := Lib.hid EE
              go_wp2_with fail
              exact ⟨⟨j + 1, by omega, by go_num, EE.out, HY2.out⟩, by simp [intOf]; omega⟩
        · have h2 : (L.length : Int) ≤ j := by omega
          obtain rfl : j = L.length := by omega
          have OM := HO.out.mono HX.out.size
          rw [EA.out] at OM
          have OM := Lib.hid OM
          have X9 := Lib.hid (HX.out.trans HY.out)
          go_wp2_with fail
          exact ⟨⟨k + 1, by omega, by go_num, OM.out, X9.out⟩, by simp [intOf]; omega⟩
    · have h1 : (n : Int) ≤ k := by omega
      obtain rfl : k = n := by omega
      go_wp2_with fail
      go_ret
      exact ⟨_, rfl, HR.out, HX.out⟩
end Go.Proofs.YtijnadjgmmednaaGreat.N
