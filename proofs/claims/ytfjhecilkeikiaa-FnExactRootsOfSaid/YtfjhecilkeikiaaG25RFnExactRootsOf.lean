import Derived.Test.YtfjhecilkeikiaaG1RFnExactRootsOf
import Derived.Test.YtfjhecilkeikiaaG2RFnExactRootsOf
import Derived.Test.YtfjhecilkeikiaaProg
import Derived.Test.YtfjhecilkeikiaaG6RFnExactRootsOf
import Derived.Test.YtfjhecilkeikiaaG7RFnExactRootsOf
import Derived.Test.YtfjhecilkeikiaaG8RFnExactRootsOf
import Derived.Test.YtfjhecilkeikiaaG5RFnExactRootsOf
import Derived.Test.YtfjhecilkeikiaaG3RFnExactRootsOf
import Derived.Test.YtfjhecilkeikiaaG12RFnExactRootsOf
import Derived.Test.YtfjhecilkeikiaaG13RFnExactRootsOf
import Derived.Test.YtfjhecilkeikiaaG14RFnExactRootsOf
import Derived.Test.YtfjhecilkeikiaaG15RFnExactRootsOf
import Derived.Test.YtfjhecilkeikiaaG16RFnExactRootsOf
import Derived.Test.YtfjhecilkeikiaaG18RFnExactRootsOf
import Derived.Test.YtfjhecilkeikiaaG19RFnExactRootsOf
import Derived.Test.YtfjhecilkeikiaaG20RFnExactRootsOf
import Derived.Test.YtfjhecilkeikiaaG21RFnExactRootsOf
import Derived.Test.YtfjhecilkeikiaaG22RFnExactRootsOf
import Derived.Test.YtfjhecilkeikiaaG23RFnExactRootsOf
import Derived.Test.YtfjhecilkeikiaaG24RFnExactRootsOf
import Derived.Deep.LoopGhost
import Derived.Deep.RegionHeld3
import Derived.Deep.QuietTactic
import Derived.BigQuiet
import Derived.Test.YtfjhecilkeikiaaG11RFnExactRootsOf
import Derived.Test.YtfjhecilkeikiaaG10RFnExactRootsOf
/- SmallPairs: both, and the law. -/
namespace Go.Proofs.Ytfjhecilkeikiaa.N
open Go.RowKit
set_option linter.unusedVariables false
set_option linter.unusedSimpArgs false

def GivesPS (w : World) (xs : List (ByteArray × ByteArray)) (b : Bool) (e : Ending) (w' : World) : Prop := ∃ v, e = .returned (.tuple #[v, .bool b]) ∧ w'.ownsRow w.heap.size 28 2 v xs.length (psT xs) ∧ Ext w w'
def tps (l : List TP) : List (ByteArray × ByteArray) := l.map fun p => (tx p.1, tx p.2)
theorem tps_length (l : List TP) : (tps l).length = l.length := by simp [tps]

set_option maxHeartbeats 3200000 in
theorem specSP_yes (n : Nat) (hn : n ≤ 3) (w : World) : Calls Try.prog 21 #[.int .i64 n] w (GivesPS w (tps (smallP n)) true) := by
  have CT := Lib.hid (cjSmall_calls n hn)
  have CI := Lib.hid (fun W => l1In_calls (n : Int) 0 3 W)
  rw [decide_eq_true (show (0 : Int) ≤ n ∧ (n : Int) ≤ 3 by omega)] at CI
  have EL : Hid ((tps (smallP n)).length = (smallP n).length) := tps_length _
  have EP : Hid (psT (tps (smallP n)) = psP (smallP n)) := rfl
  generalize tps (smallP n) = T at *
  generalize smallP n = R at *
  go_enter Try.func21, Try.ntmps21
  go_wp2_with fail
  refine (CI.out _).mono ?_
  rintro e w0 ⟨rfl, rfl⟩
  go_wp2_with fail
  refine (CT.out _).mono ?_
  rintro e w1 ⟨v, rfl, o, x⟩
  have O := Lib.hid o
  have X := Lib.hid x
  clear o x
  go_wp2_with fail
  go_ret2
  exact ⟨_, rfl, (by rw [EL.out, EP.out]; exact O.out), X.out⟩
set_option maxHeartbeats 3200000 in
theorem specSP_no (n : Int) (hn : ¬ (0 ≤ n ∧ n ≤ 3)) (w : World) : Calls Try.prog 21 #[.int .i64 n] w (GivesPS w [] false) := by
  have CI := Lib.hid (fun W => l1In_calls n 0 3 W)
  rw [decide_eq_false hn] at CI
  clear hn
  go_enter Try.func21, Try.ntmps21
  go_wp2_with fail
  refine (CI.out _).mono ?_
  rintro e w0 ⟨rfl, rfl⟩
  go_wp2_with fail
  go_ret2
  exact ⟨_, rfl, World.ownsRow_nil _ _ _ _, Ext.refl _⟩

set_option maxHeartbeats 3200000 in
theorem implSP_yes (n : Nat) (hn : n ≤ 3) (w : World) : Calls Try.prog 22 #[.int .i64 n] w (GivesPS w (tps (smallP n)) true) := by
  have CT := Lib.hid (small_calls n hn)
  have h1 : ¬ ((n : Int) < 0) := by omega
  have h2 : ¬ ((3 : Int) < n) := by omega
  have h3 : (n : Int) ≤ 3 := by omega
  have EL : Hid ((tps (smallP n)).length = (smallP n).length) := tps_length _
  have EP : Hid (psT (tps (smallP n)) = psP (smallP n)) := rfl
  generalize tps (smallP n) = T at *
  generalize smallP n = R at *
  go_enter Try.func22, Try.ntmps22
  go_wp2_with fail
  refine (CT.out _).mono ?_
  rintro e w1 ⟨v, rfl, o, x⟩
  have O := Lib.hid o
  have X := Lib.hid x
  clear o x
  go_wp2_with fail
  go_ret2
  exact ⟨_, rfl, (by rw [EL.out, EP.out]; exact O.out), X.out⟩
set_option maxHeartbeats 3200000 in
theorem implSP_no (n : Int) (hn : ¬ (0 ≤ n ∧ n ≤ 3)) (w : World) : Calls Try.prog 22 #[.int .i64 n] w (GivesPS w [] false) := by
  by_cases h0 : n < 0
  · clear hn
    go_enter Try.func22, Try.ntmps22
    go_wp2_with fail
    go_ret2
    exact ⟨_, rfl, World.ownsRow_nil _ _ _ _, Ext.refl _⟩
  · have h1 : 3 < n := by omega
    have h2 : 0 ≤ n := by omega
    clear hn
    go_enter Try.func22, Try.ntmps22
    go_wp2_with fail
    go_ret2
    exact ⟨_, rfl, World.ownsRow_nil _ _ _ _, Ext.refl _⟩

theorem both_SP (n : Int) : ∃ (xs : List (ByteArray × ByteArray)) (b : Bool), xs.length < 10000 ∧ (∀ w, Calls Try.prog 21 #[.int .i64 n] w (GivesPS w xs b)) ∧ (∀ w, Calls Try.prog 22 #[.int .i64 n] w (GivesPS w xs b)) := by
  by_cases h : 0 ≤ n ∧ n ≤ 3
  · obtain ⟨m, rfl⟩ : ∃ m : Nat, n = m := ⟨n.toNat, by omega⟩
    refine ⟨_, _, ?_, specSP_yes m (by omega), implSP_yes m (by omega)⟩
    rw [tps_length]
    have := smallP_le (m + 1) (by omega)
    have e : (List.range (m + 1)).flatMap prs = smallP m := rfl
    rw [e] at this
    omega
  · exact ⟨[], false, by simp, specSP_no n h, implSP_no n h⟩
set_option maxHeartbeats 6400000 in
set_option maxRecDepth 100000 in
theorem walk_FnExactSmallPairs (n : Int) (hn : (Lit.int IntKind.i64 n).wf = true) (w : World) :
    Calls Try.prog 6 #[.int .i64 n] w fun e w' => e = .returned (.bool true) ∧ Ext w w' := by
  obtain ⟨xs, b, LN, C1, C2⟩ := both_SP n
  have LN := Lib.hid LN
  have C1 := Lib.hid C1
  have C2 := Lib.hid C2
  clear hn
  cases b
  all_goals
    go_enter Try.func6, Try.ntmps6
    go_wp2_with fail
    refine (C1.out _).mono ?_
    rintro e w6 ⟨v1, rfl, o1, x1⟩
    have X3 := Lib.hid x1
    have O1 := Lib.hid o1
    clear o1 x1
    go_wp2_with fail
    refine (C2.out _).mono ?_
    rintro e w7 ⟨v2, rfl, o2, x2⟩
    have X67 := Lib.hid x2
    have O2 := Lib.hid o2
    clear o2 x2
    go_wp2_with fail
    refine (eqPairS_calls xs (by have := LN.out; omega) _ _ v2 v1 _ O2.out (row_ext O1.out X67.out)).mono ?_
    rintro e w8 ⟨rfl, x8⟩
    go_wp2_with fail
    refine (markPairS_calls w6.heap.size xs.length (psT xs) 1 (by omega) (by have := LN.out; omega) v2 _ (row_ext O2.out x8)).mono ?_
    rintro e w9 ⟨rfl, o4, g4⟩
    obtain ⟨q, hq⟩ : ∃ q : Int, ((1 + 2 * xs.length : Nat) : Int) = q := ⟨_, rfl⟩
    have p5 : (0 : Int) ≤ q := by omega
    have HQ := Lib.hid hq
    rw [hq]
    clear hq
    have X69 := Lib.hid ((X67.out.trans x8).grown g4 (fun k hk => (World.ownsRow.lt O2.out k hk).1))
    have R1 := Lib.hid (row_ext O1.out X69.out)
    have O4 := Lib.hid o4
    clear o4 g4 x8
    go_wp2_with fail
    refine (heldPairS_calls _ xs.length 1 (by omega) (by have := LN.out; omega) v2 _ O4.out).mono ?_
    rintro e w10 ⟨rfl, x10⟩
    have X610 := Lib.hid (X69.out.trans x10)
    have R1 := Lib.hid (row_ext R1.out x10)
    have O4 := Lib.hid (row_ext O4.out x10)
    clear x10
    rw [HQ.out]
    go_wp2_with fail
    refine (C2.out _).mono ?_
    rintro e w11 ⟨v6, rfl, o6, x5⟩
    have R1 := Lib.hid (row_ext R1.out x5)
    have O4 := Lib.hid (row_ext O4.out x5)
    have O6 := Lib.hid o6
    have X611 := Lib.hid (X610.out.trans x5)
    clear x5 o6
    go_wp2_with fail
    refine (eqPairS_calls xs (by have := LN.out; omega) _ _ v6 v1 _ O6.out R1.out).mono ?_
    rintro e w12 ⟨rfl, x12⟩
    have O4 := Lib.hid (row_ext O4.out x12)
    have X612 := Lib.hid (X611.out.trans x12)
    clear x12
    go_wp2_with fail
    refine (heldPairS_calls _ xs.length 1 (by omega) (by have := LN.out; omega) v2 _ O4.out).mono ?_
    rintro e w13 ⟨rfl, x13⟩
    have X13 := Lib.hid ((X3.out.trans X612.out).trans x13)
    clear x13
    rw [HQ.out]
    go_wp2_with fail
    go_ret
    exact ⟨rfl, X13.out⟩
end Go.Proofs.Ytfjhecilkeikiaa.N
/- CommutingWith: the reference's. -/
namespace Go.Proofs.Ytfjhecilkeikiaa.N
open Go.RowKit
set_option linter.unusedVariables false
set_option linter.unusedSimpArgs false

/-- The pairs of a list that pass a test, told up to the first k. -/
def fil (f : TP → Bool) (R : List TP) (k : Nat) : List TP := (R.take k).filter f
theorem fil_step (f : TP → Bool) (R : List TP) (k : Nat) (p : TP) (h : R[k]? = some p) : fil f R (k + 1) = fil f R k ++ (if f p then [p] else []) := by
  unfold fil
  rw [List.take_add_one, h, List.filter_append]
  cases hf : f p <;> simp [hf]
theorem fil_length (f : TP → Bool) (R : List TP) (k : Nat) : (fil f R k).length ≤ R.length := Nat.le_trans (List.length_filter_le _ _) (by rw [List.length_take]; omega)
def comm (p q : TP) : Bool := decide (ptx (mul p q) = ptx (mul q p))

set_option maxHeartbeats 6400000 in
set_option maxRecDepth 100000 in
theorem specCW_yes (A B : Tr) (hc : A.carets = B.carets) (hB : B.carets ≤ 8) (n : Nat) (hn : n ≤ 3) (w : World) : Calls Try.prog 26 #[.agg #[.string (tx A), .string (tx B)], .int .i64 n] w (GivesPS w (tps ((smallP n).filter (comm (A, B)))) true) := by
  have CT := Lib.hid (cjSmall_calls n hn)
  have CI := Lib.hid (fun W => l1In_calls (n : Int) 0 3 W)
  rw [decide_eq_true (show (0 : Int) ≤ n ∧ (n : Int) ≤ 3 by omega)] at CI
  have CG := Lib.hid (fun W => prGood_yes A B hc hB W)
  have PM : Hid (∀ q ∈ smallP n, q.1.carets = q.2.carets ∧ q.2.carets ≤ 3) := fun q hq => by
    obtain ⟨k, h1, h2, h3, _⟩ := smallP_mem hq
    omega
  have EL : Hid ((tps ((smallP n).filter (comm (A, B)))).length = ((smallP n).filter (comm (A, B))).length) := tps_length _
  have EP : Hid (psT (tps ((smallP n).filter (comm (A, B)))) = psP ((smallP n).filter (comm (A, B)))) := rfl
  have LR : Hid ((smallP n).length ≤ 784) := Nat.le_trans (smallP_le (n + 1) (by omega)) (by omega)
  have EF : Hid (fil (comm (A, B)) (smallP n) (smallP n).length = (smallP n).filter (comm (A, B))) := by show _ = _; unfold fil; rw [List.take_length]
  have CM := Lib.hid (fun (C D : Tr) (h1 : C.carets = D.carets) (h2 : D.carets ≤ 3) => (⟨fun W => prTimes_calls A B C D hc h1 (by omega) (by omega) W, fun W => prTimes_calls C D A B h1 hc (by omega) (by omega) W,
      (mul_carets (p := (A, B)) (q := (C, D)) hc h1), (mul_carets (p := (C, D)) (q := (A, B)) h1 hc)⟩ : (∀ W, _) ∧ (∀ W, _) ∧ _ ∧ _))
  have HBh : Hid (A.carets ≤ 8) := by show _ ≤ _; omega
  have HBh2 : Hid (B.carets ≤ 8) := hB
  have X0 := Lib.hid ((Ext.refl w).alloc (.cells #[.string (tx A), .string (tx B)] 28))
  have B0 : Hid ((w.alloc (.cells #[.string (tx A), .string (tx B)] 28)).heap[w.heap.size]? = some (.cells #[.string (tx A), .string (tx B)] 28)) := heap_alloc_new w _
  obtain ⟨c0, c1⟩ := cells_of B0.out
  generalize (smallP n).filter (comm (A, B)) = F at *
  generalize tps F = TF at *
  generalize smallP n = R at *
  generalize hxa : tx A = xa at *
  generalize hxb : tx B = xb at *
  clear hc hB
  go_enter Try.func26, Try.ntmps26
  go_wp2_with fail
  generalize w.alloc (.cells #[.string xa, .string xb] 28) = W at *
  refine (CG.out _).mono ?_
  rintro e w1 ⟨rfl, x1⟩
  have X1 := Lib.hid (X0.out.trans x1)
  have B1 := Lib.hid (x1.at B0.out)
  clear x1 c0 c1
  go_wp2_with fail
  refine (CI.out _).mono ?_
  rintro e w0 ⟨rfl, rfl⟩
  go_wp2_with fail
  refine (CT.out _).mono ?_
  rintro e wA ⟨v1, rfl, o1, xA⟩
  obtain ⟨A1, n1, rfl⟩ := row_form o1
  have O1 := Lib.hid o1
  have XA := Lib.hid (X1.out.trans xA)
  have BA := Lib.hid (xA.at B1.out)
  clear o1 xA
  have lr := LR.out
  go_wp2_with fail
  go_loopw [20, 6] (fun i v wr => ∃ q : Nat, q ≤ R.length ∧ i = .int .i64 q ∧ Hid (wr.ownsRow wA.heap.size 28 2 v (fil (comm (A, B)) R q).length (psP (fil (comm (A, B)) R q))) ∧ Hid (Ext wA wr)) (fun i _ _ => R.length - (intOf i).toNat)
  case atStart => exact ⟨0, Nat.zero_le _, rfl, World.ownsRow_nil _ _ _ _, Ext.refl _⟩
  case round =>
    obtain ⟨q, hq, rfl, HO, HX⟩ := hrel
    generalize wr = wq at *
    by_cases hql : q < R.length
    · have q0 : (0 : Int) ≤ q := by omega
      have q1 : (q : Int) < R.length := by omega
      obtain ⟨g, cap, e1, hcs⟩ := new_slice_cell O1.out (by omega)
      injection e1 with e2 e4 e3
      subst e2 e3
      clear e4
      have hg : R[q]? = some R[q] := List.getElem?_eq_getElem hql
      obtain ⟨g0, g1⟩ := psP_get R q _ hg
      have d0 := HX.out.cell (hcs _ _ g0)
      have d1 := HX.out.cell (hcs _ _ g1)
      obtain ⟨c0, c1⟩ := cells_of (HX.out.at BA.out)
      have FS := Lib.hid (fil_step (comm (A, B)) R q _ hg)
      have FL := Lib.hid (fil_length (comm (A, B)) R q)
      have hp := PM.out _ (List.getElem_mem hql)
      obtain ⟨T1, T2, m1, m2⟩ := CM.out R[q].1 R[q].2 hp.1 hp.2
      have hA := HBh.out
      have hB := HBh2.out
      have P1 := Lib.hid (fun W => prText_calls (mul (A, B) (R[q].1, R[q].2)).1 (mul (A, B) (R[q].1, R[q].2)).2 (by omega) (by omega) W)
      have P2 := Lib.hid (fun W => prText_calls (mul (R[q].1, R[q].2) (A, B)).1 (mul (R[q].1, R[q].2) (A, B)).2 (by omega) (by omega) W)
      have T1 := Lib.hid T1
      have T2 := Lib.hid T2
      have HC : Hid (comm (A, B) R[q] = decide (ptx (mul (A, B) (R[q].1, R[q].2)) = ptx (mul (R[q].1, R[q].2) (A, B)))) := rfl
      have EM : Hid (∀ l : List TP, psP l ++ [.string (tx R[q].1), .string (tx R[q].2)] = psP (l ++ [R[q]])) := fun l => by rw [psP_append]; rfl
      generalize mul (A, B) (R[q].1, R[q].2) = u1 at *
      generalize mul (R[q].1, R[q].2) (A, B) = u2 at *
      have p1 : ptx (u1.1, u1.2) = ptx u1 := rfl
      have p2 : ptx (u2.1, u2.2) = ptx u2 := rfl
      rw [p1] at P1
      rw [p2] at P2
      clear p1 p2 m1 m2 hp hA hB
      generalize R[q] = pq at *
      generalize tx pq.1 = xc at *
      generalize tx pq.2 = xd at *
      have hnew := heap_alloc_new wq (.cells #[.string xc, .string xd] 28)
      obtain ⟨e0, e1⟩ := cells_of hnew
      have XQ := (Ext.refl wq).alloc (.cells #[.string xc, .string xd] 28)
      have c0 := XQ.cell c0
      have c1 := XQ.cell c1
      have XQ := Lib.hid XQ
      clear hnew
      go_wp2_with fail
      generalize wq.alloc (.cells #[.string xc, .string xd] 28) = wb at *
      have KX : ∀ w', Ext wb w' → w'.cell? ⟨w.heap.size, 0, none⟩ = some (.string xa) ∧ w'.cell? ⟨w.heap.size, 1, none⟩ = some (.string xb) ∧ w'.cell? ⟨wq.heap.size, 0, none⟩ = some (.string xc) ∧ w'.cell? ⟨wq.heap.size, 1, none⟩ = some (.string xd) := fun w' h => ⟨h.cell c0, h.cell c1, h.cell e0, h.cell e1⟩
      go_region_held3 (fun w' => w'.cell? ⟨w.heap.size, 0, none⟩ = some (.string xa) ∧ w'.cell? ⟨w.heap.size, 1, none⟩ = some (.string xb) ∧ w'.cell? ⟨wq.heap.size, 0, none⟩ = some (.string xc) ∧ w'.cell? ⟨wq.heap.size, 1, none⟩ = some (.string xd))
        (first | with_reducible exact KX _ (Ext.refl _).drew | with_reducible exact KX _ x3 | with_reducible exact KX _ x4 | with_reducible exact KX _ x5 | with_reducible exact KX _ x6 | fail)
        (first
          | (go_at_call 47; (with_reducible refine (T1.out _).mono ?_); rintro e w3 ⟨rfl, hx3⟩; have x3 := (Ext.refl wb).drew.trans hx3)
          | (go_at_call 46; (with_reducible refine (P1.out _).mono ?_); rintro e w4 ⟨rfl, hx4⟩; have x4 := x3.trans hx4)
          | (go_at_call 47; (with_reducible refine (T2.out _).mono ?_); rintro e w5 ⟨rfl, hx5⟩; have x5 := x4.trans hx5)
          | (go_at_call 46; (with_reducible refine (P2.out _).mono ?_); rintro e w6 ⟨rfl, hx6⟩; have x6 := x5.trans hx6)
          | fail)
      have XW := Lib.hid (HX.out.trans (XQ.out.trans x6))
      have O6 := row_ext HO.out (XQ.out.trans x6)
      obtain ⟨_, _, e0, e1⟩ := KX _ x6
      have FL2 := FL.out
      have lr2 := LR.out
      clear x3 x4 x5 x6 hx3 hx4 hx5 hx6 KX c0 c1 d0 d1
      generalize fil (comm (A, B)) R q = Fq at *
      by_cases hz : ptx u1 = ptx u2
      · have hk : comm (A, B) pq = true := by rw [HC.out]; exact decide_eq_true hz
        rw [hk] at FS
        have EE : Hid (psP Fq ++ [.string xc, .string xd] = psP (fil (comm (A, B)) R (q + 1))) := by show _ = _; rw [FS.out, EM.out]; rfl
        have EN : Hid (Fq.length + 1 = (fil (comm (A, B)) R (q + 1)).length) := by show _ = _; rw [FS.out, List.length_append]; rfl
        rw [hz]
        have zz : ((ptx u2).toList == (ptx u2).toList) = true := by simp
        rw [zz]
        clear zz
        have O7 := row_ext O6 ((Ext.refl w6).alloc (.cells #[.string xc, .string xd] 28))
        have X7 := XW.out.alloc (.cells #[.string xc, .string xd] 28)
        have B7 := Lib.hid X7.size
        go_wp2_with (at_builtin; refine wpList_appK rfl (.tmp 33) (.tmp 35) 38 rfl wA.heap.size 28 _ 2 32 Try.underlying38 infoPr2 rfl (by omega) _ Fq.length 1 1 _ _ [.string xc, .string xd] rfl rfl O7 rfl (new_cells w6 #[.string xc, .string xd] _) (by simp [Value.oneCell']) (by unfold maxLen; omega) (by omega) B7.out ?_; intro v8 w8 o8 g8 q8)
        have X8 := Lib.hid (X7.grown g8 (fun k hk => (World.ownsRow.lt O7 k hk).1))
        rw [EE.out, EN.out] at o8
        have O8 := Lib.hid o8
        clear o8 g8 q8 O7 X7 O6
        go_wp2_with fail
        exact ⟨⟨q + 1, by omega, by go_num, O8.out, X8.out⟩, by simp [intOf]; omega⟩
      · have hk : comm (A, B) pq = false := by rw [HC.out]; exact decide_eq_false hz
        rw [hk] at FS
        have EE : Hid (Fq = fil (comm (A, B)) R (q + 1)) := by show _ = _; rw [FS.out]; simp
        rw [EE.out] at O6
        have O8 := Lib.hid O6
        have zz : ((ptx u1).toList == (ptx u2).toList) = false := by
          cases h : ((ptx u1).toList == (ptx u2).toList) with
          | false => rfl
          | true => exact absurd (ba_ext (eq_of_beq h)) hz
        rw [zz]
        go_wp2_with fail
        exact ⟨⟨q + 1, by omega, by go_num, O8.out, XW.out⟩, by simp [intOf]; omega⟩
    · have q1 : (R.length : Int) ≤ q := by omega
      obtain rfl : q = R.length := by omega
      have O5 := HO.out
      rw [EF.out] at O5
      have O5 := Lib.hid O5
      have X5 := Lib.hid (XA.out.trans HX.out)
      have O6 := Lib.hid (row_mono O5.out XA.out.size)
      go_wp2_with fail
      go_ret2
      exact ⟨_, rfl, (by rw [EL.out, EP.out]; exact O6.out), X5.out⟩
end Go.Proofs.Ytfjhecilkeikiaa.N
