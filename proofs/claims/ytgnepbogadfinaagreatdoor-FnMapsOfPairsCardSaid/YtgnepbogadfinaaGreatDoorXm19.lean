import Derived.StillTactics
import Derived.Test.YtgnepbogadfinaaGreatDoorXm2
import Derived.Test.YtgnepbogadfinaaGreatDoorXm13
/- A part of the proof: lemmas that later parts use. -/
set_option linter.unusedVariables false
set_option linter.unusedSimpArgs false
namespace Go.Proofs.YtgnepbogadfinaaGreatDoor.N
open Go.RowKit
def adB (l : List UInt8) : Bool := decide (l.length ≤ 10) && l.all fun c => c == 48 || c == 49
theorem contains2 (c : UInt8) : ([48, 49] : List UInt8).contains c = (c == 48 || c == 49) := by cases h : (c == 48) <;> cases h2 : (c == 49) <;> simp [List.contains, List.elem, h, h2]
theorem dropW_nil (p : UInt8 → Bool) (l : List UInt8) : l.dropWhile p = [] ↔ l.all p = true := by
  induction l with
  | nil => simp
  | cons a l ih =>
    rw [List.dropWhile_cons]
    cases h : p a with
    | true => simp [h, ih]
    | false => simp [h]
theorem trim_nil (l : List UInt8) : (Lib.trimS l [48, 49] = []) ↔ (l.all fun c => c == 48 || c == 49) = true := by
  have e : (fun c => ([48, 49] : List UInt8).contains c) = fun c => c == 48 || c == 49 := funext contains2
  unfold Lib.trimS Lib.trimLeftS Lib.trimRightS
  rw [e]
  generalize (fun c : UInt8 => c == 48 || c == 49) = p
  rw [dropW_nil, List.all_reverse]
  cases h : l.all p with
  | true =>
    have : l.reverse.dropWhile p = [] := (dropW_nil p _).2 (by rw [List.all_reverse]; exact h)
    simp [this]
  | false =>
    refine ⟨fun h2 => ?_, fun h2 => (by cases h2)⟩
    exfalso
    have : (l.reverse.dropWhile p) = [] := by
      cases hd : l.reverse.dropWhile p with
      | nil => rfl
      | cons a m =>
        have h3 : p a = false := by
          have := List.head?_dropWhile_not p l.reverse
          rw [hd] at this
          simpa using this
        rw [hd] at h2
        simp [h3] at h2
    have := (dropW_nil p _).1 this
    rw [List.all_reverse, h] at this
    cases this
theorem str_nil (l : List UInt8) : (⟨l.toArray⟩ : ByteArray).toList.isEmpty = l.isEmpty := by
  have : (⟨l.toArray⟩ : ByteArray).toList = l := S_toList l
  rw [this]
set_option maxHeartbeats 1600000 in
theorem isAddress_calls (s : ByteArray) (w : World) : Calls Tryz.prog 40 #[.string s] w fun e w' => e = .returned (.bool (adB s.toList)) ∧ Ext w w' := by
  have hz : s.toList.length = s.size := by rw [ByteArray.toList_eq]; rfl
  by_cases h : s.size ≤ 10
  · have C1 := Lib.hid (fun W => Any.strings_Trim_laid trim (by kernel_rfl) s ⟨#[48, 49]⟩ W (by omega) (by decide) (ascii_of_all (by decide)))
    have E : Hid ((⟨(Lib.trimS s.data.toList [48, 49]).toArray⟩ : ByteArray).toList.isEmpty = adB s.toList) := by
      show _ = _
      have t2 := trim_nil s.data.toList
      have d1 : decide (s.toList.length ≤ 10) = true := decide_eq_true (by omega)
      rw [str_nil]
      unfold adB
      rw [d1, Bool.true_and, ByteArray.toList_eq, Bool.eq_iff_iff, List.isEmpty_iff]
      exact t2
    change Hid (∀ W, Calls Tryz.prog 72 _ W (fun e w' => e = .returned (.string ⟨(Lib.trimS s.data.toList [48, 49]).toArray⟩) ∧ Below W.heap.size W w')) at C1
    generalize (⟨(Lib.trimS s.data.toList [48, 49]).toArray⟩ : ByteArray) = r at *
    have h1 : (s.size : Int) ≤ 10 := by omega
    rw [← E.out]
    clear hz
    go_enter Tryz.func40, Tryz.ntmps40
    go_wp2_with fail
    refine (C1.out _).mono ?_
    rintro e w1 ⟨rfl, x1⟩
    go_wp2_with fail
    go_ret
    exact ⟨rfl, x1⟩
  · have h1 : ¬ ((s.size : Int) ≤ 10) := by omega
    have e : adB s.toList = false := by unfold adB; rw [decide_eq_false (by omega), Bool.false_and]
    rw [e]
    clear e hz
    go_enter Tryz.func40, Tryz.ntmps40
    go_wp2_with fail
    go_ret
    exact ⟨rfl, Ext.refl _⟩
def imgL : List (List UInt8) → List (List UInt8) → List UInt8 → Option (List UInt8)
  | a :: la, b :: lb, s => if a.isPrefixOf s = true then (if b.length + (s.length - a.length) ≤ 10 then some (b ++ s.drop a.length) else none) else imgL la lb s
  | _, _, _ => none
def StV : Option (List UInt8) → Value
  | none => .tuple #[.string ⟨#[]⟩, .bool false]
  | some x => .tuple #[.string (S x), .bool true]
theorem imgL_drop (la lb : List (List UInt8)) (s : List UInt8) (k : Nat) (a b : List UInt8) (ha : la[k]? = some a) (hb : lb[k]? = some b) : imgL (la.drop k) (lb.drop k) s = if a.isPrefixOf s = true then (if b.length + (s.length - a.length) ≤ 10 then some (b ++ s.drop a.length) else none) else imgL (la.drop (k + 1)) (lb.drop (k + 1)) s := by
  obtain ⟨h1, rfl⟩ := List.getElem?_eq_some_iff.1 ha
  obtain ⟨h2, rfl⟩ := List.getElem?_eq_some_iff.1 hb
  rw [List.drop_eq_getElem_cons h1, List.drop_eq_getElem_cons h2]
  rfl
theorem imgL_end (la lb : List (List UInt8)) (s : List UInt8) (k : Nat) (h : la.length ≤ k) : imgL (la.drop k) (lb.drop k) s = none := by
  rw [List.drop_eq_nil_of_le h]
  unfold imgL
  rfl
set_option maxHeartbeats 6400000 in
set_option maxRecDepth 100000 in
theorem ImageOf_yes (A B : Tr) (hc : A.carets = B.carets) (hB : B.carets ≤ 8) (s : ByteArray) (hs : adB s.toList = true) (w : World) :
    Calls Tryz.prog 13 #[.agg #[.string (tx A), .string (tx B)], .string s] w fun e w' => e = .returned (StV (imgL (addrs A []) (addrs B []) s.toList)) ∧ Ext w w' := by
  have X0 := Lib.hid ((Ext.refl w).alloc (.cells #[.string (tx A), .string (tx B)] 25))
  obtain ⟨b0, b1⟩ := cells_of (heap_alloc_new w (.cells #[.string (tx A), .string (tx B)] 25))
  have C1 := Lib.hid (pairOf_yes A B hc hB)
  have C2 := Lib.hid (fun W => isAddress_calls s W)
  rw [hs] at C2
  have C3 := Lib.hid (fun pa W ra => addresses_calls A [] ⟨#[]⟩ pa W (by omega) (by simp; omega) rfl ra)
  have C4 := Lib.hid (fun pa W ra => addresses_calls B [] ⟨#[]⟩ pa W (by omega) (by simp; omega) rfl ra)
  have LA := addrs_length A []
  have LB := addrs_length B []
  have LL : (addrs A []).length = (addrs B []).length := by omega
  have L9 : (addrs A []).length ≤ 9 := by omega
  have sz : s.size = s.toList.length := by rw [ByteArray.toList_eq]; rfl
  have sl : s.toList.length ≤ 10 := by unfold adB at hs; rw [Bool.and_eq_true] at hs; exact of_decide_eq_true hs.1
  have D8 : Hid ((∀ x ∈ addrs A [], x.length ≤ 8) ∧ ∀ x ∈ addrs B [], x.length ≤ 8) := ⟨fun x hx => by have := addrs_depth A [] x hx; have := A.depth_le; simp at *; omega, fun x hx => by have := addrs_depth B [] x hx; have := B.depth_le; simp at *; omega⟩
  have CP := Lib.hid (fun a W => Any.strings_CutPrefix cutp s (S a) W)
  change Hid (∀ a W, Calls Tryz.prog 42 #[.string s, .string (S a)] W (fun e w' => e = .returned (.tuple #[.string (S (Lib.trimPrefix s.data.toList a)), .bool (Lib.hasPrefix s.data.toList a)]) ∧ w' = W)) at CP
  have sd : s.data.toList = s.toList := (ByteArray.toList_eq s).symm
  rw [sd] at CP
  generalize addrs A [] = la at *
  generalize addrs B [] = lb at *
  generalize s.toList = l at *
  have LN := Lib.hid (show 0 < la.length by omega)
  clear hc hB hs LA LB sd
  go_enter Tryz.func13, Tryz.ntmps13
  go_wp2_with fail
  generalize w.alloc (.cells #[.string (tx A), .string (tx B)] 25) = W at *
  refine (C1.out _).mono ?_
  rintro e w1 ⟨pa, pb, rfl, rA, rB, x1⟩
  have xx := (Ext.refl w1).alloc (.cells #[.pointer pa, .pointer pb] 53)
  have X1 := Lib.hid (X0.out.trans (x1.trans xx))
  have RA := Lib.hid (rA.ext xx)
  have RB := Lib.hid (rB.ext xx)
  have B6 := Lib.hid (heap_alloc_new w1 (.cells #[.pointer pa, .pointer pb] 53))
  clear rA rB xx x1 b0 b1
  go_wp2_with fail
  generalize w1.alloc (.cells #[.pointer pa, .pointer pb] 53) = W1 at *
  refine (C2.out _).mono ?_
  rintro e w2 ⟨rfl, x2⟩
  have X2 := Lib.hid (X1.out.trans x2)
  have RA := Lib.hid (RA.out.ext x2)
  have RB := Lib.hid (RB.out.ext x2)
  have B7 := Lib.hid (x2.at B6.out)
  obtain ⟨c4, c5⟩ := cells_of B7.out
  clear x2
  go_wp2_with fail
  refine (C4.out pb _ RB.out).mono ?_
  rintro e w3 ⟨vb, rfl, ob, x3⟩
  have X3 := Lib.hid (X2.out.trans x3)
  have RA := Lib.hid (RA.out.ext x3)
  obtain ⟨d0, d1⟩ := cells_of (x3.at B7.out)
  have OB := Lib.hid ob
  clear x3 c4 c5 ob
  go_wp2_with fail
  refine (C3.out pa _ RA.out).mono ?_
  rintro e w4 ⟨va, rfl, oa, x4⟩
  have X4 := Lib.hid (X3.out.trans x4)
  have ob : Own w4 w2.heap.size 9 vb (sls lb) := row_ext OB.out x4
  obtain ⟨A1, q1, rfl, _, rda⟩ := oa.reads
  obtain ⟨A2, q2, rfl, _, rdb⟩ := ob.reads
  rw [sls_length] at rda rdb ⊢
  rw [sls_length]
  have ln : 0 < la.length := by have := LN.out; omega
  obtain ⟨ad, rfl, ca⟩ := rda (by omega)
  obtain ⟨bd, rfl, cb⟩ := rdb (by omega)
  have CA := Lib.hid ca
  have CB := Lib.hid cb
  have X4 := Lib.hid (X3.out.trans x4)
  clear x4 oa d0 d1 ca cb ob OB
  go_wp2_with fail
  go_loop [32] (fun i => ∃ k : Nat, k ≤ la.length ∧ i = .int .i64 k ∧ Hid (imgL la lb l = imgL (la.drop k) (lb.drop k) l)) (fun i => la.length - (intOf i).toNat)
  case atStart => exact ⟨0, Nat.zero_le _, rfl, by show _ = _; rw [List.drop_zero, List.drop_zero]⟩
  case round =>
    obtain ⟨k, hk, rfl, hI⟩ := hrel
    by_cases hlt : k < la.length
    · have hlt2 : k < lb.length := by omega
      have c1 := CA.out k _ (sls_get la k hlt)
      have c2 := CB.out k _ (sls_get lb k hlt2)
      have P := Lib.hid (fun W => CP.out la[k] W)
      have hd := imgL_drop la lb l k _ _ (List.getElem?_eq_getElem hlt) (List.getElem?_eq_getElem hlt2)
      have h8 := D8.out.2 lb[k] (List.getElem_mem hlt2)
      have h0 : (0 : Int) ≤ k := by omega
      have h1 : (k : Int) < la.length := by omega
      have h2 : (k : Int) < lb.length := by omega
      generalize la[k] = x at *
      generalize lb[k] = y at *
      unfold Lib.hasPrefix Lib.trimPrefix Lib.hasPrefix at P
      by_cases hp : x.isPrefixOf l = true
      · rw [if_pos hp] at hd P
        rw [hp] at P
        have e0 : S y ++ S (l.drop x.length) = S (y ++ l.drop x.length) := S_append _ _
        have hy : (9223372036854775807 < (S y).size + (S (l.drop x.length)).size) = False := eq_false (by rw [S_size, S_size, List.length_drop]; omega)
        have hz : (S (y ++ l.drop x.length)).size = y.length + (l.length - x.length) := by rw [S_size, List.length_append, List.length_drop]
        have HI := Lib.hid (hI.out.trans hd)
        clear hI hd
        have hv : StV (if y.length + (l.length - x.length) ≤ 10 then some (y ++ l.drop x.length) else none) = if y.length + (l.length - x.length) ≤ 10 then .tuple #[.string (S (y ++ l.drop x.length)), .bool true] else .tuple #[.string ⟨#[]⟩, .bool false] := by split <;> rfl
        have HV := Lib.hid hv
        clear hv
        generalize S (y ++ l.drop x.length) = r at *
        generalize S (l.drop x.length) = q at *
        generalize S x = x0 at *
        generalize S y = y0 at *
        by_cases hn : y.length + (l.length - x.length) ≤ 10
        · have t1 : (r.size : Int) ≤ 10 := by omega
          clear hz
          go_wp2_with fail
          refine (P.out _).mono ?_
          rintro e w5 ⟨rfl, rfl⟩
          go_wp2_with fail
          rw [HI.out, HV.out, if_pos hn]
          exact bodyPost_ret (v := .tuple #[.string r, .bool true]) (by simp [results, Tryz.results13, go_sem]) rfl ⟨rfl, X4.out⟩
        · have t1 : ¬ (r.size : Int) ≤ 10 := by omega
          clear hz
          go_wp2_with fail
          refine (P.out _).mono ?_
          rintro e w5 ⟨rfl, rfl⟩
          go_wp2_with fail
          rw [HI.out, HV.out, if_neg hn]
          exact bodyPost_ret (v := .tuple #[.string ⟨#[]⟩, .bool false]) (by simp [results, Tryz.results13, go_sem]) rfl ⟨rfl, X4.out⟩
      · rw [if_neg hp] at hd P
        rw [show x.isPrefixOf l = false from Bool.eq_false_iff.2 hp] at P
        have HI := Lib.hid (hI.out.trans hd)
        clear hI hd
        go_wp2_with fail
        refine (P.out _).mono ?_
        rintro e w5 ⟨rfl, rfl⟩
        go_wp2_with fail
        exact ⟨⟨k + 1, by omega, by go_num, HI.out⟩, by simp [intOf]; omega⟩
    · have h1 : (la.length : Int) ≤ k := by omega
      have HI := Lib.hid (hI.out.trans (imgL_end la lb l k (by omega)))
      go_wp2_with fail
      rw [HI.out]
      exact bodyPost_ret (v := .tuple #[.string ⟨#[]⟩, .bool false]) (by simp [results, Tryz.results13, go_sem]) rfl ⟨rfl, X4.out⟩
theorem ImageOf_no1 (s t a : ByteArray) (h : ¬ Good s t) (w : World) :
    Calls Tryz.prog 13 #[.agg #[.string s, .string t], .string a] w fun e w' => e = .returned (StV none) ∧ Ext w w' := by
  have X0 := Lib.hid ((Ext.refl w).alloc (.cells #[.string s, .string t] 25))
  obtain ⟨b0, b1⟩ := cells_of (heap_alloc_new w (.cells #[.string s, .string t] 25))
  have C1 := Lib.hid (fun W => pairOf_no s t h W)
  clear h
  unfold StV
  go_enter Tryz.func13, Tryz.ntmps13
  go_wp2_with fail
  generalize w.alloc (.cells #[.string s, .string t] 25) = W at *
  refine (C1.out _).mono ?_
  rintro e w1 ⟨pa, pb, rfl, x1⟩
  have X1 := Lib.hid (x1.alloc (.cells #[.pointer pa, .pointer pb] 53))
  clear x1 b0 b1
  go_wp2_with fail
  go_ret2
  exact ⟨rfl, X0.out.trans X1.out⟩
theorem ImageOf_no2 (A B : Tr) (hc : A.carets = B.carets) (hB : B.carets ≤ 8) (s : ByteArray) (hs : adB s.toList = false) (w : World) :
    Calls Tryz.prog 13 #[.agg #[.string (tx A), .string (tx B)], .string s] w fun e w' => e = .returned (StV none) ∧ Ext w w' := by
  have X0 := Lib.hid ((Ext.refl w).alloc (.cells #[.string (tx A), .string (tx B)] 25))
  obtain ⟨b0, b1⟩ := cells_of (heap_alloc_new w (.cells #[.string (tx A), .string (tx B)] 25))
  have C1 := Lib.hid (pairOf_yes A B hc hB)
  have C2 := Lib.hid (fun W => isAddress_calls s W)
  rw [hs] at C2
  clear hc hB hs
  unfold StV
  go_enter Tryz.func13, Tryz.ntmps13
  go_wp2_with fail
  generalize w.alloc (.cells #[.string (tx A), .string (tx B)] 25) = W at *
  refine (C1.out _).mono ?_
  rintro e w1 ⟨pa, pb, rfl, rA, rB, x1⟩
  have xx := (Ext.refl w1).alloc (.cells #[.pointer pa, .pointer pb] 53)
  have X1 := Lib.hid (X0.out.trans (x1.trans xx))
  clear rA rB xx x1 b0 b1
  go_wp2_with fail
  generalize w1.alloc (.cells #[.pointer pa, .pointer pb] 53) = W1 at *
  refine (C2.out _).mono ?_
  rintro e w2 ⟨rfl, x2⟩
  go_wp2_with fail
  go_ret2
  exact ⟨rfl, X1.out.trans x2⟩
end Go.Proofs.YtgnepbogadfinaaGreatDoor.N
