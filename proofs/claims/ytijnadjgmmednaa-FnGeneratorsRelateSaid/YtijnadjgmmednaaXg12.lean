import Derived.Deep.CutRange
import Derived.Test.YtijnadjgmmednaaXg9
/- A part of the proof: lemmas that later parts use. -/
set_option linter.unusedVariables false
set_option linter.unusedSimpArgs false
namespace Go.Proofs.Ytijnadjgmmednaa.N
open Go.RowKit
def pb (x y : ByteArray) (b : Bool) : Value := .tuple #[.agg #[.string x, .string y], .bool b]
end Go.Proofs.Ytijnadjgmmednaa.N
namespace Go.Proofs.Ytijnadjgmmednaa.N
open Go.RowKit
theorem Two.far {w : World} {g k : Nat} {t : TypeId} (h : Two w k t) (hk : k ≠ g) (a b : Value) : Two (set2 w g a b) k t := let ⟨u, v, e⟩ := h.at_; ⟨u, v, (set2_other hk a b).trans e⟩
end Go.Proofs.Ytijnadjgmmednaa.N
namespace Go.Proofs.Ytijnadjgmmednaa.N
open Go.RowKit
theorem Two.lt {w : World} {g : Nat} {t : TypeId} (h : Two w g t) : g < w.heap.size := let ⟨u, v, e⟩ := h.at_; (Array.getElem?_eq_some_iff.1 e).1
end Go.Proofs.Ytijnadjgmmednaa.N
namespace Go.Proofs.Ytijnadjgmmednaa.N
def parseT (s : ByteArray) : Option Tr := match rd (s.size + 1) s.toList with
  | some (T, []) => some T
  | _ => none
theorem parseT_tx (T : Tr) : parseT (tx T) = some T := by
  have hd := T.depth_le
  have hl := T.txt_length
  unfold parseT
  rw [show (tx T).toList = T.txt from S_toList _, rd_txt' T _ (by show T.depth < T.txt.length + 1; omega)]
theorem parseT_some {s : ByteArray} {T : Tr} (h : parseT s = some T) : s = tx T := by
  unfold parseT at h
  split at h
  · rename_i T' e
    injection h with h
    subst h
    have := (rd_some e).1
    rw [List.append_nil] at this
    rw [S_of s, this]; rfl
  · cases h
def pairT (s t : ByteArray) : Option (Tr × Tr) := match parseT s, parseT t with
  | some A, some B => if A.carets = B.carets ∧ B.carets ≤ 8 then some (A, B) else none
  | _, _ => none
theorem pairT_yes {A B : Tr} (h1 : A.carets = B.carets) (h2 : B.carets ≤ 8) : pairT (tx A) (tx B) = some (A, B) := by
  unfold pairT; rw [parseT_tx, parseT_tx]; exact if_pos ⟨h1, h2⟩
theorem pairT_some {s t : ByteArray} {p : Tr × Tr} (h : pairT s t = some p) : s = tx p.1 ∧ t = tx p.2 ∧ p.1.carets = p.2.carets ∧ p.2.carets ≤ 8 := by
  unfold pairT at h
  split at h
  · rename_i A B e1 e2
    split at h
    · rename_i hc
      injection h with h
      subst h
      exact ⟨parseT_some e1, parseT_some e2, hc.1, hc.2⟩
    · cases h
  · cases h
theorem pairT_cases (s t : ByteArray) : (∃ A B, s = tx A ∧ t = tx B ∧ A.carets = B.carets ∧ B.carets ≤ 8 ∧ pairT s t = some (A, B)) ∨ (¬ Good s t ∧ pairT s t = none) := by
  cases h : pairT s t with
  | some p => obtain ⟨a, b, c, d⟩ := pairT_some h; exact .inl ⟨p.1, p.2, a, b, c, d, rfl⟩
  | none =>
    refine .inr ⟨fun ⟨A, B, h1, h2, h3, h4⟩ => ?_, rfl⟩
    rw [h1, h2, pairT_yes h3 h4] at h
    cases h
def okP (p : Tr × Tr) : ByteArray × ByteArray × Bool := (tx p.1, tx p.2, true)
def noP : ByteArray × ByteArray × Bool := (⟨#[]⟩, ⟨#[]⟩, false)
def ifF (p : Tr × Tr) : ByteArray × ByteArray × Bool := if p.1.carets ≤ 8 then okP p else noP
def vP (r : ByteArray × ByteArray × Bool) : Value := .tuple #[.agg #[.string r.1, .string r.2.1], .bool r.2.2]
theorem ifP_vP (p : Tr × Tr) : ifP p = vP (ifF p) := by unfold ifP ifF; split <;> rfl
def anyT (m : Nat) (s t : ByteArray) : Option (Tr × Tr) := match parseT s, parseT t with
  | some A, some B => if A.carets = B.carets ∧ B.carets ≤ m then some (A, B) else none
  | _, _ => none
theorem anyT_yes {m : Nat} {A B : Tr} (h1 : A.carets = B.carets) (h2 : B.carets ≤ m) : anyT m (tx A) (tx B) = some (A, B) := by
  unfold anyT; rw [parseT_tx, parseT_tx]; exact if_pos ⟨h1, h2⟩
theorem anyT_some {m : Nat} {s t : ByteArray} {p : Tr × Tr} (h : anyT m s t = some p) : s = tx p.1 ∧ t = tx p.2 ∧ p.1.carets = p.2.carets ∧ p.2.carets ≤ m := by
  unfold anyT at h
  split at h
  · rename_i A B e1 e2
    split at h
    · rename_i hc
      injection h with h
      subst h
      exact ⟨parseT_some e1, parseT_some e2, hc.1, hc.2⟩
    · cases h
  · cases h
end Go.Proofs.Ytijnadjgmmednaa.N
namespace Go.Proofs.Ytijnadjgmmednaa.N
open Go.RowKit
set_option maxHeartbeats 3200000 in
set_option maxRecDepth 100000 in
theorem ProductPair_yes (A B C D : Tr) (hc : A.carets = B.carets) (hB : B.carets ≤ 8) (hd : C.carets = D.carets) (hD : D.carets ≤ 8) (w : World) :
    Calls Try.prog 10 #[.agg #[.string (tx A), .string (tx B)], .agg #[.string (tx C), .string (tx D)]] w fun e w' => e = .returned (ifP (mul (A, B) (C, D))) ∧ Ext w w' := by
  obtain ⟨X2, t0⟩ := boxSS_facts w (tx A) (tx B) (tx C) (tx D) (.string ⟨#[]⟩) (.string ⟨#[]⟩) 25
  have X2 := Lib.hid X2
  have C1 := Lib.hid (two_yes A B C D hc hB hd hD)
  have C2 := Lib.hid (fun pa pb pc pd W ra rb rc rd => times_calls A B C D hc hd (by omega) (by omega) pa pb pc pd W ra rb rc rd)
  have LE := mul_carets (p := (A, B)) (q := (C, D)) hc hd
  simp only at LE
  have C3 := Lib.hid (fun pa pb W => fits_calls (mul (A, B) (C, D)).1 (mul (A, B) (C, D)).2 (by omega) (by omega) pa pb W)
  obtain ⟨s, t, b, hb⟩ := ifP_two (mul (A, B) (C, D))
  rw [show ((mul (A, B) (C, D)).1, (mul (A, B) (C, D)).2) = mul (A, B) (C, D) from rfl, hb] at C3
  rw [hb]
  clear hc hB hd hD LE hb
  go_enter Try.func10, Try.ntmps10
  go_wp2_with fail
  generalize ((w.alloc (.cells #[.string (tx A), .string (tx B)] 25)).alloc (.cells #[.string (tx C), .string (tx D)] 25)).alloc (.cells #[.string ⟨#[]⟩, .string ⟨#[]⟩] 25) = W at *
  refine (C1.out _).mono ?_
  rintro e w1 ⟨pa, pb, pc, pd, rfl, rA, rB, rC, rD, x1⟩
  have xx := ((Ext.refl w1).alloc (.cells #[.pointer pa, .pointer pb] 82)).alloc (.cells #[.pointer pc, .pointer pd] 82)
  have X1 := Lib.hid (x1.trans xx)
  have RA := Lib.hid (rA.ext xx)
  have RB := Lib.hid (rB.ext xx)
  have RC := Lib.hid (rC.ext xx)
  have RD := Lib.hid (rD.ext xx)
  have T0 := Lib.hid (t0.ext X1.out)
  clear rA rB rC rD t0 x1 xx
  go_wp2_with fail
  generalize (w1.alloc (.cells #[.pointer pa, .pointer pb] 82)).alloc (.cells #[.pointer pc, .pointer pd] 82) = W1 at *
  refine (C2.out pa pb pc pd _ RA.out RB.out RC.out RD.out).mono ?_
  rintro e w2 ⟨p1, p2, rfl, r1, r2, x2⟩
  have X2' := Lib.hid (X1.out.trans x2)
  have R1 := Lib.hid r1
  have R2 := Lib.hid r2
  clear r1 r2
  have T2 := Lib.hid (T0.out.ext x2)
  clear x2
  go_wp2_with fail
  refine (C3.out p1 p2 _ R1.out R2.out).mono ?_
  rintro e w3 ⟨rfl, x3⟩
  have X3 := Lib.hid (X2'.out.trans x3)
  have T3 := T2.out.ext x3
  obtain ⟨u, v, k0, k1, f0, f1⟩ := T3.facts
  have T3 := Lib.hid T3
  clear x3
  go_wp2_with fail
  have HH := set2_heap T3.out (.string s) (.string t)
  have XX := (X2.out.trans X3.out).set2 (g := w.heap.size + 1 + 1) (by omega) (.string s) (.string t)
  change bodyPost _ _ _ _ _ (N.set2 _ (w.heap.size + 1 + 1) (.string s) (.string t))
  obtain ⟨hc0, hc1⟩ := cells_of HH
  generalize N.set2 _ (w.heap.size + 1 + 1) (.string s) (.string t) = W3 at *
  exact bodyPost_ret (v := .tuple #[.agg #[.string s, .string t], .bool b]) (by simp [results, Try.results10, go_sem, hc0, hc1]) rfl ⟨rfl, XX⟩
set_option maxHeartbeats 3200000 in
set_option maxRecDepth 100000 in
theorem ProductPair_no (s1 t1 s2 t2 : ByteArray) (h : ¬ (Good s1 t1 ∧ Good s2 t2)) (w : World) :
    Calls Try.prog 10 #[.agg #[.string s1, .string t1], .agg #[.string s2, .string t2]] w fun e w' => e = .returned (.tuple #[emptyP, .bool false]) ∧ Ext w w' := by
  obtain ⟨X2, t0⟩ := boxSS_facts w s1 t1 s2 t2 (.string ⟨#[]⟩) (.string ⟨#[]⟩) 25
  have X2 := Lib.hid X2
  have C1 := Lib.hid (two_no s1 t1 s2 t2 h)
  clear h
  go_enter Try.func10, Try.ntmps10
  go_wp2_with fail
  generalize ((w.alloc (.cells #[.string s1, .string t1] 25)).alloc (.cells #[.string s2, .string t2] 25)).alloc (.cells #[.string ⟨#[]⟩, .string ⟨#[]⟩] 25) = W at *
  refine (C1.out _).mono ?_
  rintro e w1 ⟨pa, pb, pc, pd, rfl, x1⟩
  have X1 := Lib.hid ((x1.alloc (.cells #[.pointer pa, .pointer pb] 82)).alloc (.cells #[.pointer pc, .pointer pd] 82))
  have T3 := t0.ext X1.out
  obtain ⟨u, v, k0, k1, f0, f1⟩ := T3.facts
  have T3 := Lib.hid T3
  clear t0 x1
  go_wp2_with fail
  have HH := set2_heap T3.out (.string ⟨#[]⟩) (.string ⟨#[]⟩)
  have XX := (X2.out.trans X1.out).set2 (g := w.heap.size + 1 + 1) (by omega) (.string ⟨#[]⟩) (.string ⟨#[]⟩)
  change bodyPost _ _ _ _ _ (N.set2 _ (w.heap.size + 1 + 1) (.string ⟨#[]⟩) (.string ⟨#[]⟩))
  obtain ⟨hc0, hc1⟩ := cells_of HH
  generalize N.set2 _ (w.heap.size + 1 + 1) (.string ⟨#[]⟩) (.string ⟨#[]⟩) = W3 at *
  exact bodyPost_ret (v := .tuple #[emptyP, .bool false]) (by simp [results, Try.results10, go_sem, hc0, hc1, emptyP]) rfl ⟨rfl, XX⟩
set_option maxHeartbeats 3200000 in
set_option maxRecDepth 100000 in
theorem InversePair_yes (A B : Tr) (hc : A.carets = B.carets) (hB : B.carets ≤ 8) (w : World) :
    Calls Try.prog 28 #[.agg #[.string (tx A), .string (tx B)]] w fun e w' => e = .returned (.tuple #[.agg #[.string (tx B), .string (tx A)], .bool true]) ∧ Ext w w' := by
  obtain ⟨X2, t0⟩ := boxS_facts w (tx A) (tx B) (.string ⟨#[]⟩) (.string ⟨#[]⟩) 25
  have X2 := Lib.hid X2
  have C1 := Lib.hid (pairOf_yes A B hc hB)
  have C2 := Lib.hid (fun pa pb W => inverse_calls pa pb W)
  have LE : B.carets ≤ 8 ∧ A.carets ≤ 8 := by omega
  have C3 := Lib.hid (fun pa pb W (ra : Rep W B pa) (rb : Rep W A pb) => plain_calls B A (by omega) (by omega) pa pb W ra rb)
  generalize tx B = s at *
  generalize tx A = t at *
  clear hc hB LE
  go_enter Try.func28, Try.ntmps28
  go_wp2_with fail
  generalize (w.alloc (.cells #[.string t, .string s] 25)).alloc (.cells #[.string ⟨#[]⟩, .string ⟨#[]⟩] 25) = W at *
  refine (C1.out _).mono ?_
  rintro e w1 ⟨pa, pb, rfl, rA, rB, x1⟩
  have X1 := Lib.hid (x1.alloc (.cells #[.pointer pa, .pointer pb] 82))
  have RA := Lib.hid (rA.ext ((Ext.refl w1).alloc (.cells #[.pointer pa, .pointer pb] 82)))
  have RB := Lib.hid (rB.ext ((Ext.refl w1).alloc (.cells #[.pointer pa, .pointer pb] 82)))
  have T0 := Lib.hid (t0.ext X1.out)
  clear rA rB t0 x1
  go_wp2_with fail
  generalize w1.alloc (.cells #[.pointer pa, .pointer pb] 82) = W1 at *
  refine (C2.out pa pb _).mono ?_
  rintro e w2 ⟨rfl, x2⟩
  have X2' := Lib.hid (X1.out.trans x2)
  obtain ⟨p1, h1⟩ : ∃ p1, p1 = pb := ⟨_, rfl⟩
  obtain ⟨p2, h2⟩ : ∃ p2, p2 = pa := ⟨_, rfl⟩
  have R1 := Lib.hid (RB.out.ext x2)
  have R2 := Lib.hid (RA.out.ext x2)
  rw [← h1] at R1 ⊢
  rw [← h2] at R2 ⊢
  clear h1 h2
  have T2 := Lib.hid (T0.out.ext x2)
  clear x2
  go_wp2_with fail
  refine (C3.out p1 p2 _ R1.out R2.out).mono ?_
  rintro e w3 ⟨rfl, x3⟩
  have X3 := Lib.hid (X2'.out.trans x3)
  have T3 := T2.out.ext x3
  obtain ⟨u, v, k0, k1, f0, f1⟩ := T3.facts
  have T3 := Lib.hid T3
  clear x3
  go_wp2_with fail
  have HH := set2_heap T3.out (.string s) (.string t)
  have XX := (X2.out.trans X3.out).set2 (g := w.heap.size + 1) (by omega) (.string s) (.string t)
  change bodyPost _ _ _ _ _ (N.set2 _ (w.heap.size + 1) (.string s) (.string t))
  obtain ⟨hc0, hc1⟩ := cells_of HH
  generalize N.set2 _ (w.heap.size + 1) (.string s) (.string t) = W3 at *
  exact bodyPost_ret (v := .tuple #[.agg #[.string s, .string t], .bool true]) (by simp [results, Try.results28, go_sem, hc0, hc1]) rfl ⟨rfl, XX⟩
end Go.Proofs.Ytijnadjgmmednaa.N
