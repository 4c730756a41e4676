import Derived.Test.YtdcipaaclpedhaaGreatXr13
import Derived.Test.YtdcipaaclpedhaaGreatXr19
import Derived.Test.YtdcipaaclpedhaaGreatXr23
/- A part of the proof: lemmas that later parts use. -/
set_option linter.unusedVariables false
set_option linter.unusedSimpArgs false
namespace Go.Proofs.YtdcipaaclpedhaaGreat.N
open Go.RowKit
def GivesPS (w : World) (xs : List (ByteArray × ByteArray)) (b : Bool) (e : Ending) (w' : World) : Prop := ∃ v, e = .returned (.tuple #[v, .bool b]) ∧ w'.ownsRow w.heap.size 25 2 v xs.length (psT xs) ∧ Ext w w'
def tps (l : List TP) : List (ByteArray × ByteArray) := l.map fun p => (tx p.1, tx p.2)
theorem tps_length (l : List TP) : (tps l).length = l.length := by simp [tps]
set_option maxHeartbeats 3200000 in
theorem specSP_yes (n : Nat) (hn : n ≤ 3) (w : World) : Calls Tryz.prog 20 #[.int .i64 n] w (GivesPS w (tps (smallP n)) true) := by
  have CT := Lib.hid (cjSmall_calls n hn)
  have CI := Lib.hid (fun W => l1In_calls (n : Int) 0 3 W)
  rw [decide_eq_true (show (0 : Int) ≤ n ∧ (n : Int) ≤ 3 by omega)] at CI
  have EL : Hid ((tps (smallP n)).length = (smallP n).length) := tps_length _
  have EP : Hid (psT (tps (smallP n)) = psP (smallP n)) := rfl
  generalize tps (smallP n) = T at *
  generalize smallP n = R at *
  go_enter Tryz.func20, Tryz.ntmps20
  go_wp2_with fail
  refine (CI.out _).mono ?_
  rintro e w0 ⟨rfl, rfl⟩
  go_wp2_with fail
  refine (CT.out _).mono ?_
  rintro e w1 ⟨v, rfl, o, x⟩
  have O := Lib.hid o
  have X := Lib.hid x
  clear o x
  go_wp2_with fail
  go_ret2
  exact ⟨_, rfl, (by rw [EL.out, EP.out]; exact O.out), X.out⟩
set_option maxHeartbeats 3200000 in
theorem specSP_no (n : Int) (hn : ¬ (0 ≤ n ∧ n ≤ 3)) (w : World) : Calls Tryz.prog 20 #[.int .i64 n] w (GivesPS w [] false) := by
  have CI := Lib.hid (fun W => l1In_calls n 0 3 W)
  rw [decide_eq_false hn] at CI
  clear hn
  go_enter Tryz.func20, Tryz.ntmps20
  go_wp2_with fail
  refine (CI.out _).mono ?_
  rintro e w0 ⟨rfl, rfl⟩
  go_wp2_with fail
  go_ret2
  exact ⟨_, rfl, World.ownsRow_nil _ _ _ _, Ext.refl _⟩
set_option maxHeartbeats 3200000 in
theorem implSP_yes (n : Nat) (hn : n ≤ 3) (w : World) : Calls Tryz.prog 19 #[.int .i64 n] w (GivesPS w (tps (smallP n)) true) := by
  have CT := Lib.hid (small_calls n hn)
  have h1 : ¬ ((n : Int) < 0) := by omega
  have h2 : ¬ ((3 : Int) < n) := by omega
  have h3 : (n : Int) ≤ 3 := by omega
  have EL : Hid ((tps (smallP n)).length = (smallP n).length) := tps_length _
  have EP : Hid (psT (tps (smallP n)) = psP (smallP n)) := rfl
  generalize tps (smallP n) = T at *
  generalize smallP n = R at *
  go_enter Tryz.func19, Tryz.ntmps19
  go_wp2_with fail
  refine (CT.out _).mono ?_
  rintro e w1 ⟨v, rfl, o, x⟩
  have O := Lib.hid o
  have X := Lib.hid x
  clear o x
  go_wp2_with fail
  go_ret2
  exact ⟨_, rfl, (by rw [EL.out, EP.out]; exact O.out), X.out⟩
set_option maxHeartbeats 3200000 in
theorem implSP_no (n : Int) (hn : ¬ (0 ≤ n ∧ n ≤ 3)) (w : World) : Calls Tryz.prog 19 #[.int .i64 n] w (GivesPS w [] false) := by
  by_cases h0 : n < 0
  · clear hn
    go_enter Tryz.func19, Tryz.ntmps19
    go_wp2_with fail
    go_ret2
    exact ⟨_, rfl, World.ownsRow_nil _ _ _ _, Ext.refl _⟩
  · have h1 : 3 < n := by omega
    have h2 : 0 ≤ n := by omega
    clear hn
    go_enter Tryz.func19, Tryz.ntmps19
    go_wp2_with fail
    go_ret2
    exact ⟨_, rfl, World.ownsRow_nil _ _ _ _, Ext.refl _⟩
end Go.Proofs.YtdcipaaclpedhaaGreat.N
namespace Go.Proofs.YtdcipaaclpedhaaGreat.N
open Go.RowKit
def fil (f : TP → Bool) (R : List TP) (k : Nat) : List TP := (R.take k).filter f
theorem fil_step (f : TP → Bool) (R : List TP) (k : Nat) (p : TP) (h : R[k]? = some p) : fil f R (k + 1) = fil f R k ++ (if f p then [p] else []) := by
  unfold fil
  rw [List.take_add_one, h, List.filter_append]
  cases hf : f p <;> simp [hf]
theorem fil_length (f : TP → Bool) (R : List TP) (k : Nat) : (fil f R k).length ≤ R.length := Nat.le_trans (List.length_filter_le _ _) (by rw [List.length_take]; omega)
def comm (p q : TP) : Bool := decide (ptx (mul p q) = ptx (mul q p))
set_option maxHeartbeats 6400000 in
set_option maxRecDepth 100000 in
theorem specCM_yes (A B : Tr) (hc : A.carets = B.carets) (hB : B.carets ≤ 8) (n : Nat) (hn : n ≤ 3) (w : World) : Calls Tryz.prog 14 #[.agg #[.string (tx A), .string (tx B)], .int .i64 n] w (GivesPS w (tps ((smallP n).filter (comm (A, B)))) true) := by
  have CT := Lib.hid (cjSmall_calls n hn)
  have CI := Lib.hid (fun W => l1In_calls (n : Int) 0 3 W)
  rw [decide_eq_true (show (0 : Int) ≤ n ∧ (n : Int) ≤ 3 by omega)] at CI
  have CG := Lib.hid (fun W => prGood_yes A B hc hB W)
  have PM : Hid (∀ q ∈ smallP n, q.1.carets = q.2.carets ∧ q.2.carets ≤ 3) := fun q hq => by
    obtain ⟨k, h1, h2, h3, _⟩ := smallP_mem hq
    omega
  have EL : Hid ((tps ((smallP n).filter (comm (A, B)))).length = ((smallP n).filter (comm (A, B))).length) := tps_length _
  have EP : Hid (psT (tps ((smallP n).filter (comm (A, B)))) = psP ((smallP n).filter (comm (A, B)))) := rfl
  have LR : Hid ((smallP n).length ≤ 784) := Nat.le_trans (smallP_le (n + 1) (by omega)) (by omega)
  have EF : Hid (fil (comm (A, B)) (smallP n) (smallP n).length = (smallP n).filter (comm (A, B))) := by show _ = _; unfold fil; rw [List.take_length]
  have CM := Lib.hid (fun (C D : Tr) (h1 : C.carets = D.carets) (h2 : D.carets ≤ 3) => (⟨fun W => prTimes_calls A B C D hc h1 (by omega) (by omega) W, fun W => prTimes_calls C D A B h1 hc (by omega) (by omega) W,
      (mul_carets (p := (A, B)) (q := (C, D)) hc h1), (mul_carets (p := (C, D)) (q := (A, B)) h1 hc)⟩ : (∀ W, _) ∧ (∀ W, _) ∧ _ ∧ _))
  have HBh : Hid (A.carets ≤ 8) := by show _ ≤ _; omega
  have HBh2 : Hid (B.carets ≤ 8) := hB
  have X0 := Lib.hid ((Ext.refl w).alloc (.cells #[.string (tx A), .string (tx B)] 25))
  have B0 : Hid ((w.alloc (.cells #[.string (tx A), .string (tx B)] 25)).heap[w.heap.size]? = some (.cells #[.string (tx A), .string (tx B)] 25)) := heap_alloc_new w _
  obtain ⟨c0, c1⟩ := cells_of B0.out
  generalize (smallP n).filter (comm (A, B)) = F at *
  generalize tps F = TF at *
  generalize smallP n = R at *
  generalize hxa : tx A = xa at *
  generalize hxb : tx B = xb at *
  clear hc hB
  go_enter Tryz.func14, Tryz.ntmps14
  go_wp2_with fail
  generalize w.alloc (.cells #[.string xa, .string xb] 25) = W at *
  refine (CG.out _).mono ?_
  rintro e w1 ⟨rfl, x1⟩
  have X1 := Lib.hid (X0.out.trans x1)
  have B1 := Lib.hid (x1.at B0.out)
  clear x1 c0 c1
  go_wp2_with fail
  refine (CI.out _).mono ?_
  rintro e w0 ⟨rfl, rfl⟩
  go_wp2_with fail
  refine (CT.out _).mono ?_
  rintro e wA ⟨v1, rfl, o1, xA⟩
  obtain ⟨A1, n1, rfl⟩ := row_form o1
  have O1 := Lib.hid o1
  have XA := Lib.hid (X1.out.trans xA)
  have BA := Lib.hid (xA.at B1.out)
  clear o1 xA
  have lr := LR.out
  go_wp2_with fail
  go_loopw [20, 6] (fun i v wr => ∃ q : Nat, q ≤ R.length ∧ i = .int .i64 q ∧ Hid (wr.ownsRow wA.heap.size 25 2 v (fil (comm (A, B)) R q).length (psP (fil (comm (A, B)) R q))) ∧ Hid (Ext wA wr)) (fun i _ _ => R.length - (intOf i).toNat)
  case atStart => exact ⟨0, Nat.zero_le _, rfl, World.ownsRow_nil _ _ _ _, Ext.refl _⟩
  case round =>
    obtain ⟨q, hq, rfl, HO, HX⟩ := hrel
    generalize wr = wq at *
    by_cases hql : q < R.length
    · have q0 : (0 : Int) ≤ q := by omega
      have q1 : (q : Int) < R.length := by omega
      obtain ⟨g, cap, e1, hcs⟩ := new_slice_cell O1.out (by omega)
      injection e1 with e2 e4 e3
      subst e2 e3
      clear e4
      have hg : R[q]? = some R[q] := List.getElem?_eq_getElem hql
      obtain ⟨g0, g1⟩ := psP_get R q _ hg
      have d0 := HX.out.cell (hcs _ _ g0)
      have d1 := HX.out.cell (hcs _ _ g1)
      obtain ⟨c0, c1⟩ := cells_of (HX.out.at BA.out)
      have FS := Lib.hid (fil_step (comm (A, B)) R q _ hg)
      have FL := Lib.hid (fil_length (comm (A, B)) R q)
      have hp := PM.out _ (List.getElem_mem hql)
      obtain ⟨T1, T2, m1, m2⟩ := CM.out R[q].1 R[q].2 hp.1 hp.2
      have hA := HBh.out
      have hB := HBh2.out
      have P1 := Lib.hid (fun W => prText_calls (mul (A, B) (R[q].1, R[q].2)).1 (mul (A, B) (R[q].1, R[q].2)).2 (by omega) (by omega) W)
      have P2 := Lib.hid (fun W => prText_calls (mul (R[q].1, R[q].2) (A, B)).1 (mul (R[q].1, R[q].2) (A, B)).2 (by omega) (by omega) W)
      have T1 := Lib.hid T1
      have T2 := Lib.hid T2
      have HC : Hid (comm (A, B) R[q] = decide (ptx (mul (A, B) (R[q].1, R[q].2)) = ptx (mul (R[q].1, R[q].2) (A, B)))) := rfl
      have EM : Hid (∀ l : List TP, psP l ++ [.string (tx R[q].1), .string (tx R[q].2)] = psP (l ++ [R[q]])) := fun l => by rw [psP_append]; rfl
      generalize mul (A, B) (R[q].1, R[q].2) = u1 at *
      generalize mul (R[q].1, R[q].2) (A, B) = u2 at *
      have p1 : ptx (u1.1, u1.2) = ptx u1 := rfl
      have p2 : ptx (u2.1, u2.2) = ptx u2 := rfl
      rw [p1] at P1
      rw [p2] at P2
      clear p1 p2 m1 m2 hp hA hB
      generalize R[q] = pq at *
      generalize tx pq.1 = xc at *
      generalize tx pq.2 = xd at *
      have hnew := heap_alloc_new wq (.cells #[.string xc, .string xd] 25)
      obtain ⟨e0, e1⟩ := cells_of hnew
      have XQ := (Ext.refl wq).alloc (.cells #[.string xc, .string xd] 25)
      have c0 := XQ.cell c0
      have c1 := XQ.cell c1
      have XQ := Lib.hid XQ
      clear hnew
      go_wp2_with fail
      generalize wq.alloc (.cells #[.string xc, .string xd] 25) = wb at *
      have KX : ∀ w', Ext wb w' → w'.cell? ⟨w.heap.size, 0, none⟩ = some (.string xa) ∧ w'.cell? ⟨w.heap.size, 1, none⟩ = some (.string xb) ∧ w'.cell? ⟨wq.heap.size, 0, none⟩ = some (.string xc) ∧ w'.cell? ⟨wq.heap.size, 1, none⟩ = some (.string xd) := fun w' h => ⟨h.cell c0, h.cell c1, h.cell e0, h.cell e1⟩
      go_region_held3 (fun w' => w'.cell? ⟨w.heap.size, 0, none⟩ = some (.string xa) ∧ w'.cell? ⟨w.heap.size, 1, none⟩ = some (.string xb) ∧ w'.cell? ⟨wq.heap.size, 0, none⟩ = some (.string xc) ∧ w'.cell? ⟨wq.heap.size, 1, none⟩ = some (.string xd))
        (first | with_reducible exact KX _ (Ext.refl _).drew | with_reducible exact KX _ x3 | with_reducible exact KX _ x4 | with_reducible exact KX _ x5 | with_reducible exact KX _ x6 | fail)
        (first
          | (go_at_call 26; (with_reducible refine (T1.out _).mono ?_); rintro e w3 ⟨rfl, hx3⟩; have x3 := (Ext.refl wb).drew.trans hx3)
          | (go_at_call 36; (with_reducible refine (P1.out _).mono ?_); rintro e w4 ⟨rfl, hx4⟩; have x4 := x3.trans hx4)
          | (go_at_call 26; (with_reducible refine (T2.out _).mono ?_); rintro e w5 ⟨rfl, hx5⟩; have x5 := x4.trans hx5)
          | (go_at_call 36; (with_reducible refine (P2.out _).mono ?_); rintro e w6 ⟨rfl, hx6⟩; have x6 := x5.trans hx6)
          | fail)
      have XW := Lib.hid (HX.out.trans (XQ.out.trans x6))
      have O6 := row_ext HO.out (XQ.out.trans x6)
      obtain ⟨_, _, e0, e1⟩ := KX _ x6
      have FL2 := FL.out
      have lr2 := LR.out
      clear x3 x4 x5 x6 hx3 hx4 hx5 hx6 KX c0 c1 d0 d1
      generalize fil (comm (A, B)) R q = Fq at *
      by_cases hz : ptx u1 = ptx u2
      · have hk : comm (A, B) pq = true := by rw [HC.out]; exact decide_eq_true hz
        rw [hk] at FS
        have EE : Hid (psP Fq ++ [.string xc, .string xd] = psP (fil (comm (A, B)) R (q + 1))) := by show _ = _; rw [FS.out, EM.out]; rfl
        have EN : Hid (Fq.length + 1 = (fil (comm (A, B)) R (q + 1)).length) := by show _ = _; rw [FS.out, List.length_append]; rfl
        rw [hz]
        have zz : ((ptx u2).toList == (ptx u2).toList) = true := by simp
        rw [zz]
        clear zz
        have O7 := row_ext O6 ((Ext.refl w6).alloc (.cells #[.string xc, .string xd] 25))
        have X7 := XW.out.alloc (.cells #[.string xc, .string xd] 25)
        have B7 := Lib.hid X7.size
        go_wp2_with (at_builtin; refine wpList_appK rfl (.tmp 33) (.tmp 35) 28 rfl wA.heap.size 25 _ 2 32 Tryz.underlying28 infoPr2 rfl (by omega) _ Fq.length 1 1 _ _ [.string xc, .string xd] rfl rfl O7 rfl (new_cells w6 #[.string xc, .string xd] _) (by simp [Value.oneCell']) (by unfold maxLen; omega) (by omega) B7.out ?_; intro v8 w8 o8 g8 q8)
        have X8 := Lib.hid (X7.grown g8 (fun k hk => (World.ownsRow.lt O7 k hk).1))
        rw [EE.out, EN.out] at o8
        have O8 := Lib.hid o8
        clear o8 g8 q8 O7 X7 O6
        go_wp2_with fail
        exact ⟨⟨q + 1, by omega, by go_num, O8.out, X8.out⟩, by simp [intOf]; omega⟩
      · have hk : comm (A, B) pq = false := by rw [HC.out]; exact decide_eq_false hz
        rw [hk] at FS
        have EE : Hid (Fq = fil (comm (A, B)) R (q + 1)) := by show _ = _; rw [FS.out]; simp
        rw [EE.out] at O6
        have O8 := Lib.hid O6
        have zz : ((ptx u1).toList == (ptx u2).toList) = false := by
          cases h : ((ptx u1).toList == (ptx u2).toList) with
          | false => rfl
          | true => exact absurd (ba_ext (eq_of_beq h)) hz
        rw [zz]
        go_wp2_with fail
        exact ⟨⟨q + 1, by omega, by go_num, O8.out, XW.out⟩, by simp [intOf]; omega⟩
    · have q1 : (R.length : Int) ≤ q := by omega
      obtain rfl : q = R.length := by omega
      have O5 := HO.out
      rw [EF.out] at O5
      have O5 := Lib.hid O5
      have X5 := Lib.hid (XA.out.trans HX.out)
      have O6 := Lib.hid (row_mono O5.out XA.out.size)
      go_wp2_with fail
      go_ret2
      exact ⟨_, rfl, (by rw [EL.out, EP.out]; exact O6.out), X5.out⟩
end Go.Proofs.YtdcipaaclpedhaaGreat.N
namespace Go.Proofs.YtdcipaaclpedhaaGreat.N
open Go.RowKit
set_option maxHeartbeats 6400000 in
set_option maxRecDepth 100000 in
theorem implCM_yes (A B : Tr) (hc : A.carets = B.carets) (hB : B.carets ≤ 8) (n : Nat) (hn : n ≤ 3) (w : World) : Calls Tryz.prog 13 #[.agg #[.string (tx A), .string (tx B)], .int .i64 n] w (GivesPS w (tps ((smallP n).filter (comm (A, B)))) true) := by
  have CT := Lib.hid (small_calls n hn)
  have CG := Lib.hid (fun W => pairOf_yes A B hc hB W)
  have PM : Hid (∀ q ∈ smallP n, q.1.carets = q.2.carets ∧ q.2.carets ≤ 3) := fun q hq => by
    obtain ⟨k, h1, h2, h3, _⟩ := smallP_mem hq
    omega
  have EL : Hid ((tps ((smallP n).filter (comm (A, B)))).length = ((smallP n).filter (comm (A, B))).length) := tps_length _
  have EP : Hid (psT (tps ((smallP n).filter (comm (A, B)))) = psP ((smallP n).filter (comm (A, B)))) := rfl
  have LR : Hid ((smallP n).length ≤ 784) := Nat.le_trans (smallP_le (n + 1) (by omega)) (by omega)
  have EF : Hid (fil (comm (A, B)) (smallP n) (smallP n).length = (smallP n).filter (comm (A, B))) := by show _ = _; unfold fil; rw [List.take_length]
  have CM := Lib.hid (fun (C D : Tr) (h1 : C.carets = D.carets) (h2 : D.carets ≤ 3) => (⟨fun pa pb pc pd W ra rb rc rd => times_calls A B C D hc h1 (by omega) (by omega) pa pb pc pd W ra rb rc rd, fun pa pb pc pd W ra rb rc rd => times_calls C D A B h1 hc (by omega) (by omega) pc pd pa pb W rc rd ra rb,
      (mul_carets (p := (A, B)) (q := (C, D)) hc h1), (mul_carets (p := (C, D)) (q := (A, B)) h1 hc)⟩ : (∀ pa pb pc pd W, _ → _ → _ → _ → _) ∧ (∀ pa pb pc pd W, _ → _ → _ → _ → _) ∧ _ ∧ _))
  have HBh : Hid (A.carets ≤ 8) := by show _ ≤ _; omega
  have HBh2 : Hid (B.carets ≤ 8) := hB
  have n0 : ¬ ((n : Int) < 0) := by omega
  have n3 : ¬ ((3 : Int) < n) := by omega
  have n33 : (n : Int) ≤ 3 := by omega
  have X0 := Lib.hid ((Ext.refl w).alloc (.cells #[.string (tx A), .string (tx B)] 25))
  generalize (smallP n).filter (comm (A, B)) = F at *
  generalize tps F = TF at *
  generalize smallP n = R at *
  generalize hxa : tx A = xa at *
  generalize hxb : tx B = xb at *
  clear hc hB
  go_enter Tryz.func13, Tryz.ntmps13
  go_wp2_with fail
  generalize w.alloc (.cells #[.string xa, .string xb] 25) = W at *
  refine (CG.out _).mono ?_
  rintro e w1 ⟨pa, pb, rfl, ra, rb, x1⟩
  have XB := (Ext.refl w1).alloc (.cells #[.pointer pa, .pointer pb] 57)
  have RA := Lib.hid (ra.ext XB)
  have RB := Lib.hid (rb.ext XB)
  have B1 : Hid ((w1.alloc (.cells #[.pointer pa, .pointer pb] 57)).heap[w1.heap.size]? = some (.cells #[.pointer pa, .pointer pb] 57)) := heap_alloc_new w1 _
  have X1 := Lib.hid ((X0.out.trans x1).trans XB)
  clear x1 XB ra rb
  go_wp2_with fail
  generalize w1.alloc (.cells #[.pointer pa, .pointer pb] 57) = wm at *
  refine (CT.out _).mono ?_
  rintro e wA ⟨v1, rfl, o1, xA⟩
  obtain ⟨A1, n1, rfl⟩ := row_form o1
  have O1 := Lib.hid o1
  have XA := Lib.hid (X1.out.trans xA)
  have BA := Lib.hid (xA.at B1.out)
  have RA := Lib.hid (RA.out.ext xA)
  have RB := Lib.hid (RB.out.ext xA)
  clear o1 xA
  have lr := LR.out
  go_wp2_with fail
  go_loopw [31, 8] (fun i v wr => ∃ q : Nat, q ≤ R.length ∧ i = .int .i64 q ∧ Hid (wr.ownsRow wA.heap.size 25 2 v (fil (comm (A, B)) R q).length (psP (fil (comm (A, B)) R q))) ∧ Hid (Ext wA wr)) (fun i _ _ => R.length - (intOf i).toNat)
  case atStart => exact ⟨0, Nat.zero_le _, rfl, World.ownsRow_nil _ _ _ _, Ext.refl _⟩
  case round =>
    obtain ⟨q, hq, rfl, HO, HX⟩ := hrel
    generalize wr = wq at *
    by_cases hql : q < R.length
    · have q0 : (0 : Int) ≤ q := by omega
      have q1 : (q : Int) < R.length := by omega
      obtain ⟨g, cap, e1, hcs⟩ := new_slice_cell O1.out (by omega)
      injection e1 with e2 e4 e3
      subst e2 e3
      clear e4
      have hg : R[q]? = some R[q] := List.getElem?_eq_getElem hql
      obtain ⟨g0, g1⟩ := psP_get R q _ hg
      have d0 := HX.out.cell (hcs _ _ g0)
      have d1 := HX.out.cell (hcs _ _ g1)
      obtain ⟨b0, b1⟩ := cells_of (HX.out.at BA.out)
      have FS := Lib.hid (fil_step (comm (A, B)) R q _ hg)
      have FL := Lib.hid (fil_length (comm (A, B)) R q)
      have hp := PM.out _ (List.getElem_mem hql)
      obtain ⟨T1, T2, m1, m2⟩ := CM.out R[q].1 R[q].2 hp.1 hp.2
      have hA := HBh.out
      have hB := HBh2.out
      have P1 := Lib.hid (fun ya yb W (ha : Rep W (mul (A, B) (R[q].1, R[q].2)).1 ya) (hb : Rep W (mul (A, B) (R[q].1, R[q].2)).2 yb) => ptext_calls (mul (A, B) (R[q].1, R[q].2)).1 (mul (A, B) (R[q].1, R[q].2)).2 (by omega) (by omega) ya yb W ha hb)
      have P2 := Lib.hid (fun ya yb W (ha : Rep W (mul (R[q].1, R[q].2) (A, B)).1 ya) (hb : Rep W (mul (R[q].1, R[q].2) (A, B)).2 yb) => ptext_calls (mul (R[q].1, R[q].2) (A, B)).1 (mul (R[q].1, R[q].2) (A, B)).2 (by omega) (by omega) ya yb W ha hb)
      have T1 := Lib.hid T1
      have T2 := Lib.hid T2
      have HC : Hid (comm (A, B) R[q] = decide (ptx (mul (A, B) (R[q].1, R[q].2)) = ptx (mul (R[q].1, R[q].2) (A, B)))) := rfl
      have EM : Hid (∀ l : List TP, psP l ++ [.string (tx R[q].1), .string (tx R[q].2)] = psP (l ++ [R[q]])) := fun l => by rw [psP_append]; rfl
      have CP := Lib.hid (fun W => pairOf_yes R[q].1 R[q].2 hp.1 (by omega) W)
      generalize mul (A, B) (R[q].1, R[q].2) = u1 at *
      generalize mul (R[q].1, R[q].2) (A, B) = u2 at *
      have p1 : ptx (u1.1, u1.2) = ptx u1 := rfl
      have p2 : ptx (u2.1, u2.2) = ptx u2 := rfl
      rw [p1] at P1
      rw [p2] at P2
      clear p1 p2 m1 m2 hp hA hB
      generalize R[q] = pq at *
      generalize tx pq.1 = xc at *
      generalize tx pq.2 = xd at *
      have hnew := heap_alloc_new wq (.cells #[.string xc, .string xd] 25)
      obtain ⟨e0, e1⟩ := cells_of hnew
      have XQ := (Ext.refl wq).alloc (.cells #[.string xc, .string xd] 25)
      have XQ := Lib.hid XQ
      clear hnew
      go_wp2_with fail
      generalize wq.alloc (.cells #[.string xc, .string xd] 25) = wb0 at *
      refine (CP.out _).mono ?_
      rintro e w9 ⟨pc, pd, rfl, rc, rd, x9⟩
      have e0 := x9.cell e0
      have e1 := x9.cell e1
      have XN := (Ext.refl w9).alloc (.cells #[.pointer pc, .pointer pd] 57)
      have hnew := heap_alloc_new w9 (.cells #[.pointer pc, .pointer pd] 57)
      obtain ⟨y0, y1⟩ := cells_of hnew
      have e0 := XN.cell e0
      have e1 := XN.cell e1
      have XQ2 := (XQ.out.trans x9).trans XN
      have b0 := XQ2.cell b0
      have b1 := XQ2.cell b1
      have RA2 := Lib.hid (RA.out.ext (HX.out.trans XQ2))
      have RB2 := Lib.hid (RB.out.ext (HX.out.trans XQ2))
      have RC2 := Lib.hid (rc.ext XN)
      have RD2 := Lib.hid (rd.ext XN)
      have XQ := Lib.hid XQ2
      clear hnew XN XQ2 rc rd x9
      go_wp2_with fail
      generalize w9.alloc (.cells #[.pointer pc, .pointer pd] 57) = wb at *
      have KX : ∀ w', Ext wb w' → w'.cell? ⟨w1.heap.size, 0, none⟩ = some (.pointer pa) ∧ w'.cell? ⟨w1.heap.size, 1, none⟩ = some (.pointer pb) ∧ w'.cell? ⟨w9.heap.size, 0, none⟩ = some (.pointer pc) ∧ w'.cell? ⟨w9.heap.size, 1, none⟩ = some (.pointer pd) := fun w' h => ⟨h.cell b0, h.cell b1, h.cell y0, h.cell y1⟩
      have T1 := Lib.hid (fun W (h : Ext wb W) => T1.out pa pb pc pd W (RA2.out.ext h) (RB2.out.ext h) (RC2.out.ext h) (RD2.out.ext h))
      have T2 := Lib.hid (fun W (h : Ext wb W) => T2.out pa pb pc pd W (RA2.out.ext h) (RB2.out.ext h) (RC2.out.ext h) (RD2.out.ext h))
      go_region_held3 (fun w' => w'.cell? ⟨w1.heap.size, 0, none⟩ = some (.pointer pa) ∧ w'.cell? ⟨w1.heap.size, 1, none⟩ = some (.pointer pb) ∧ w'.cell? ⟨w9.heap.size, 0, none⟩ = some (.pointer pc) ∧ w'.cell? ⟨w9.heap.size, 1, none⟩ = some (.pointer pd))
        (first | with_reducible exact KX _ (Ext.refl _).drew | with_reducible exact KX _ x3 | with_reducible exact KX _ x4 | with_reducible exact KX _ x5 | with_reducible exact KX _ x6 | fail)
        (first
          | (go_at_call 34; (with_reducible refine (T1.out _ (Ext.refl wb).drew).mono ?_); rintro e w3 ⟨s1, s2, rfl, hr1, hr2, hx3⟩; have x3 := (Ext.refl wb).drew.trans hx3)
          | (go_at_call 32; (with_reducible refine (P1.out _ _ _ hr1 hr2).mono ?_); rintro e w4 ⟨rfl, hx4⟩; have x4 := x3.trans hx4)
          | (go_at_call 34; (with_reducible refine (T2.out _ x4).mono ?_); rintro e w5 ⟨s3, s4, rfl, hr3, hr4, hx5⟩; have x5 := x4.trans hx5)
          | (go_at_call 32; (with_reducible refine (P2.out _ _ _ hr3 hr4).mono ?_); rintro e w6 ⟨rfl, hx6⟩; have x6 := x5.trans hx6)
          | fail)
      have e0 := x6.cell e0
      have e1 := x6.cell e1
      have XW := Lib.hid (HX.out.trans (XQ.out.trans x6))
      have O6 := row_ext HO.out (XQ.out.trans x6)
      have FL2 := FL.out
      have lr2 := LR.out
      clear x3 x4 x5 x6 hx3 hx4 hx5 hx6 KX d0 d1
      generalize fil (comm (A, B)) R q = Fq at *
      by_cases hz : ptx u1 = ptx u2
      · have hk : comm (A, B) pq = true := by rw [HC.out]; exact decide_eq_true hz
        rw [hk] at FS
        have EE : Hid (psP Fq ++ [.string xc, .string xd] = psP (fil (comm (A, B)) R (q + 1))) := by show _ = _; rw [FS.out, EM.out]; rfl
        have EN : Hid (Fq.length + 1 = (fil (comm (A, B)) R (q + 1)).length) := by show _ = _; rw [FS.out, List.length_append]; rfl
        rw [hz]
        have zz : ((ptx u2).toList == (ptx u2).toList) = true := by simp
        rw [zz]
        clear zz
        have O7 := row_ext O6 ((Ext.refl w6).alloc (.cells #[.string xc, .string xd] 25))
        have X7 := XW.out.alloc (.cells #[.string xc, .string xd] 25)
        have B7 := Lib.hid X7.size
        go_wp2_with (at_builtin; refine wpList_appK rfl (.tmp 49) (.tmp 51) 28 rfl wA.heap.size 25 _ 2 32 Tryz.underlying28 infoPr2 rfl (by omega) _ Fq.length 1 1 _ _ [.string xc, .string xd] rfl rfl O7 rfl (new_cells w6 #[.string xc, .string xd] _) (by simp [Value.oneCell']) (by unfold maxLen; omega) (by omega) B7.out ?_; intro v8 w8 o8 g8 q8)
        have X8 := Lib.hid (X7.grown g8 (fun k hk => (World.ownsRow.lt O7 k hk).1))
        rw [EE.out, EN.out] at o8
        have O8 := Lib.hid o8
        clear o8 g8 q8 O7 X7 O6
        go_wp2_with fail
        exact ⟨⟨q + 1, by omega, by go_num, O8.out, X8.out⟩, by simp [intOf]; omega⟩
      · have hk : comm (A, B) pq = false := by rw [HC.out]; exact decide_eq_false hz
        rw [hk] at FS
        have EE : Hid (Fq = fil (comm (A, B)) R (q + 1)) := by show _ = _; rw [FS.out]; simp
        rw [EE.out] at O6
        have O8 := Lib.hid O6
        have zz : ((ptx u1).toList == (ptx u2).toList) = false := by
          cases h : ((ptx u1).toList == (ptx u2).toList) with
          | false => rfl
          | true => exact absurd (ba_ext (eq_of_beq h)) hz
        rw [zz]
        go_wp2_with fail
        exact ⟨⟨q + 1, by omega, by go_num, O8.out, XW.out⟩, by simp [intOf]; omega⟩
    · have q1 : (R.length : Int) ≤ q := by omega
      obtain rfl : q = R.length := by omega
      have O5 := HO.out
      rw [EF.out] at O5
      have O5 := Lib.hid O5
      have X5 := Lib.hid (XA.out.trans HX.out)
      have O6 := Lib.hid (row_mono O5.out XA.out.size)
      go_wp2_with fail
      go_ret2
      exact ⟨_, rfl, (by rw [EL.out, EP.out]; exact O6.out), X5.out⟩
end Go.Proofs.YtdcipaaclpedhaaGreat.N
namespace Go.Proofs.YtdcipaaclpedhaaGreat.N
open Go.RowKit
set_option maxHeartbeats 3200000 in
theorem specCM_no (s t : ByteArray) (n : Int) (h : ¬ (Good s t ∧ 0 ≤ n ∧ n ≤ 3)) (w : World) : Calls Tryz.prog 14 #[.agg #[.string s, .string t], .int .i64 n] w (GivesPS w [] false) := by
  have X0 := Lib.hid ((Ext.refl w).alloc (.cells #[.string s, .string t] 25))
  have CI := Lib.hid (fun W => l1In_calls n 0 3 W)
  by_cases hg : Good s t
  · have hr : ¬ (0 ≤ n ∧ n ≤ 3) := fun k => h ⟨hg, k⟩
    obtain ⟨A, B, rfl, rfl, h1, h2⟩ := hg
    have CG := Lib.hid (fun W => prGood_yes A B h1 h2 W)
    rw [decide_eq_false hr] at CI
    clear h h1 h2 hr
    generalize tx A = s at *
    generalize tx B = t at *
    go_enter Tryz.func14, Tryz.ntmps14
    go_wp2_with fail
    generalize w.alloc (.cells #[.string s, .string t] 25) = W at *
    refine (CG.out _).mono ?_
    rintro e w1 ⟨rfl, x1⟩
    have X1 := Lib.hid (X0.out.trans x1)
    clear x1
    go_wp2_with fail
    refine (CI.out _).mono ?_
    rintro e w0 ⟨rfl, rfl⟩
    go_wp2_with fail
    go_ret2
    exact ⟨_, rfl, World.ownsRow_nil _ _ _ _, X1.out⟩
  · have CG := Lib.hid (fun W => prGood_no s t hg W)
    clear h hg
    go_enter Tryz.func14, Tryz.ntmps14
    go_wp2_with fail
    generalize w.alloc (.cells #[.string s, .string t] 25) = W at *
    refine (CG.out _).mono ?_
    rintro e w1 ⟨rfl, x1⟩
    have X1 := Lib.hid (X0.out.trans x1)
    clear x1
    go_wp2_with fail
    go_ret2
    exact ⟨_, rfl, World.ownsRow_nil _ _ _ _, X1.out⟩
set_option maxHeartbeats 3200000 in
theorem implCM_no (s t : ByteArray) (n : Int) (h : ¬ (Good s t ∧ 0 ≤ n ∧ n ≤ 3)) (w : World) : Calls Tryz.prog 13 #[.agg #[.string s, .string t], .int .i64 n] w (GivesPS w [] false) := by
  have X0 := Lib.hid ((Ext.refl w).alloc (.cells #[.string s, .string t] 25))
  by_cases hg : Good s t
  · have hr : ¬ (0 ≤ n ∧ n ≤ 3) := fun k => h ⟨hg, k⟩
    obtain ⟨A, B, rfl, rfl, h1, h2⟩ := hg
    have CG := Lib.hid (fun W => pairOf_yes A B h1 h2 W)
    clear h h1 h2
    generalize tx A = s at *
    generalize tx B = t at *
    by_cases n0 : n < 0
    · clear hr
      go_enter Tryz.func13, Tryz.ntmps13
      go_wp2_with fail
      generalize w.alloc (.cells #[.string s, .string t] 25) = W at *
      refine (CG.out _).mono ?_
      rintro e w1 ⟨pa, pb, rfl, ra, rb, x1⟩
      have X1 := Lib.hid ((X0.out.trans x1).alloc (.cells #[.pointer pa, .pointer pb] 57))
      clear x1 ra rb
      go_wp2_with fail
      go_ret2
      exact ⟨_, rfl, World.ownsRow_nil _ _ _ _, X1.out⟩
    · have n3 : 3 < n := by omega
      have n1 : 0 ≤ n := by omega
      clear hr
      go_enter Tryz.func13, Tryz.ntmps13
      go_wp2_with fail
      generalize w.alloc (.cells #[.string s, .string t] 25) = W at *
      refine (CG.out _).mono ?_
      rintro e w1 ⟨pa, pb, rfl, ra, rb, x1⟩
      have X1 := Lib.hid ((X0.out.trans x1).alloc (.cells #[.pointer pa, .pointer pb] 57))
      clear x1 ra rb
      go_wp2_with fail
      go_ret2
      exact ⟨_, rfl, World.ownsRow_nil _ _ _ _, X1.out⟩
  · have CG := Lib.hid (fun W => pairOf_no s t hg W)
    clear h hg
    go_enter Tryz.func13, Tryz.ntmps13
    go_wp2_with fail
    generalize w.alloc (.cells #[.string s, .string t] 25) = W at *
    refine (CG.out _).mono ?_
    rintro e w1 ⟨pa, pb, rfl, x1⟩
    have X1 := Lib.hid ((X0.out.trans x1).alloc (.cells #[.pointer pa, .pointer pb] 57))
    clear x1
    go_wp2_with fail
    go_ret2
    exact ⟨_, rfl, World.ownsRow_nil _ _ _ _, X1.out⟩
end Go.Proofs.YtdcipaaclpedhaaGreat.N
namespace Go.Proofs.YtdcipaaclpedhaaGreat.N
open Go.RowKit
set_option maxHeartbeats 6400000 in
set_option maxRecDepth 100000 in
theorem specRO_yes (A B : Tr) (hc : A.carets = B.carets) (hB : B.carets ≤ 8) (n : Nat) (hn2 : 2 ≤ n) (hn : n ≤ 4) (w : World) : Calls Tryz.prog 7 #[.agg #[.string (tx A), .string (tx B)], .int .i64 n] w (GivesPS w (tps ((smallP 3).filter (rootB (A, B) n))) true) := by
  have CT := Lib.hid (cjSmall_calls 3 (by omega))
  have CI := Lib.hid (fun W => l1In_calls (n : Int) 2 4 W)
  rw [decide_eq_true (show (2 : Int) ≤ n ∧ (n : Int) ≤ 4 by omega)] at CI
  have CG := Lib.hid (fun W => prGood_yes A B hc hB W)
  have PM : Hid (∀ q ∈ smallP 3, q.1.carets = q.2.carets ∧ q.2.carets ≤ 3) := fun q hq => by
    obtain ⟨k, h1, h2, h3, _⟩ := smallP_mem hq
    omega
  have EL : Hid ((tps ((smallP 3).filter (rootB (A, B) n))).length = ((smallP 3).filter (rootB (A, B) n)).length) := tps_length _
  have EP : Hid (psT (tps ((smallP 3).filter (rootB (A, B) n))) = psP ((smallP 3).filter (rootB (A, B) n))) := rfl
  have LR : Hid ((smallP 3).length ≤ 784) := Nat.le_trans (smallP_le (3 + 1) (by omega)) (by omega)
  have EF : Hid (fil (rootB (A, B) n) (smallP 3) (smallP 3).length = (smallP 3).filter (rootB (A, B) n)) := by show _ = _; unfold fil; rw [List.take_length]
  have CM := Lib.hid (fun (C D : Tr) (h1 : C.carets = D.carets) (h2 : D.carets ≤ 3) (j : Nat) (hj : j ≤ 4) W => prTimes_calls (powT (C, D) j).1 (powT (C, D) j).2 C D (powT_carets (q := (C, D)) h1 h2 j).1 h1 (by have := (powT_carets (q := (C, D)) h1 h2 j).2; omega) (by omega) W)
  have CR := Lib.hid (fun W => prReduce_calls A B (by omega) (by omega) W)
  have CU := Lib.hid (fun W => prUnit_calls W)
  have hq : (red (A, B)).1.carets ≤ 8 ∧ (red (A, B)).2.carets ≤ 8 := by have := red_le (A, B); simp only at this; exact ⟨by omega, by omega⟩
  have CX := Lib.hid (fun W => prText_calls (red (A, B)).1 (red (A, B)).2 (by omega) (by omega) W)
  rw [show ((red (A, B)).1, (red (A, B)).2) = red (A, B) from rfl] at CX
  have HC : Hid (∀ q : TP, rootB (A, B) n q = decide (ptx (powT q n) = ptx (red (A, B)))) := fun q => rfl
  generalize tx (red (A, B)).1 = ra at *
  generalize tx (red (A, B)).2 = rb at *
  generalize ptx (red (A, B)) = goal at *
  clear hq
  have HBh : Hid (A.carets ≤ 8) := by show _ ≤ _; omega
  have HBh2 : Hid (B.carets ≤ 8) := hB
  have X0 := Lib.hid ((Ext.refl w).alloc (.cells #[.string (tx A), .string (tx B)] 25))
  have B0 : Hid ((w.alloc (.cells #[.string (tx A), .string (tx B)] 25)).heap[w.heap.size]? = some (.cells #[.string (tx A), .string (tx B)] 25)) := heap_alloc_new w _
  obtain ⟨c0, c1⟩ := cells_of B0.out
  generalize (smallP 3).filter (rootB (A, B) n) = F at *
  generalize tps F = TF at *
  generalize smallP 3 = R at *
  generalize hxa : tx A = xa at *
  generalize hxb : tx B = xb at *
  clear hc hB
  go_enter Tryz.func7, Tryz.ntmps7
  go_wp2_with fail
  generalize w.alloc (.cells #[.string xa, .string xb] 25) = W at *
  refine (CG.out _).mono ?_
  rintro e w1 ⟨rfl, x1⟩
  have c0 := x1.cell c0
  have c1 := x1.cell c1
  have X1 := Lib.hid (X0.out.trans x1)
  clear x1
  go_wp2_with fail
  refine (CI.out _).mono ?_
  rintro e w0 ⟨rfl, rfl⟩
  go_wp2_with fail
  refine (CR.out _).mono ?_
  rintro e w8 ⟨rfl, x8⟩
  have X1 := Lib.hid (X1.out.trans x8)
  clear x8
  go_wp2_with fail
  refine (CX.out _).mono ?_
  rintro e w9 ⟨rfl, x9⟩
  have X1 := Lib.hid (X1.out.trans x9)
  clear x9 c0 c1
  go_wp2_with fail
  refine (CT.out _).mono ?_
  rintro e wA ⟨v1, rfl, o1, xA⟩
  obtain ⟨A1, n1, rfl⟩ := row_form o1
  have O1 := Lib.hid o1
  have XA := Lib.hid (X1.out.trans xA)
  clear o1 xA
  have lr := LR.out
  go_wp2_with fail
  go_loopw [25, 7] (fun i v wr => ∃ q : Nat, q ≤ R.length ∧ i = .int .i64 q ∧ Hid (wr.ownsRow wA.heap.size 25 2 v (fil (rootB (A, B) n) R q).length (psP (fil (rootB (A, B) n) R q))) ∧ Hid (Ext wA wr)) (fun i _ _ => R.length - (intOf i).toNat)
  case atStart => exact ⟨0, Nat.zero_le _, rfl, World.ownsRow_nil _ _ _ _, Ext.refl _⟩
  case round =>
    obtain ⟨q, hq, rfl, HO, HX⟩ := hrel
    generalize wr = wq at *
    by_cases hql : q < R.length
    · have q0 : (0 : Int) ≤ q := by omega
      have q1 : (q : Int) < R.length := by omega
      obtain ⟨g, cap, e1, hcs⟩ := new_slice_cell O1.out (by omega)
      injection e1 with e2 e4 e3
      subst e2 e3
      clear e4
      have hg : R[q]? = some R[q] := List.getElem?_eq_getElem hql
      obtain ⟨g0, g1⟩ := psP_get R q _ hg
      have d0 := HX.out.cell (hcs _ _ g0)
      have d1 := HX.out.cell (hcs _ _ g1)
      have FS := Lib.hid (fil_step (rootB (A, B) n) R q _ hg)
      have FL := Lib.hid (fil_length (rootB (A, B) n) R q)
      have hp := PM.out _ (List.getElem_mem hql)
      obtain ⟨fa, fb, fa0, fb0, TM, TX⟩ : ∃ fa fb : Nat → ByteArray, fa 0 = tx .leaf ∧ fb 0 = tx .leaf ∧
          (∀ j, j ≤ 4 → ∀ W, Calls Tryz.prog 26 #[.agg #[.string (fa j), .string (fb j)], .agg #[.string (tx R[q].1), .string (tx R[q].2)]] W fun e w' => e = .returned (.agg #[.string (fa (j + 1)), .string (fb (j + 1))]) ∧ Ext W w') ∧
          (∀ W, Calls Tryz.prog 36 #[.agg #[.string (fa n), .string (fb n)]] W fun e w' => e = .returned (.string (ptx (powT R[q] n))) ∧ Ext W w') :=
        ⟨fun j => tx (powT R[q] j).1, fun j => tx (powT R[q] j).2, rfl, rfl, fun j hj W => CM.out R[q].1 R[q].2 hp.1 hp.2 j hj W, fun W => prText_calls (powT R[q] n).1 (powT R[q] n).2 (by have := powT_carets hp.1 hp.2 n; omega) (by have := powT_carets hp.1 hp.2 n; omega) W⟩
      have TM := Lib.hid TM
      have TX := Lib.hid TX
      have HCq : Hid (rootB (A, B) n R[q] = decide (ptx (powT R[q] n) = goal)) := HC.out _
      have EM : Hid (∀ l : List TP, psP l ++ [.string (tx R[q].1), .string (tx R[q].2)] = psP (l ++ [R[q]])) := fun l => by rw [psP_append]; rfl
      have FA0 := Lib.hid fa0
      have FB0 := Lib.hid fb0
      clear fa0 fb0 hp
      generalize ptx (powT R[q] n) = zn at *
      generalize R[q] = pq at *
      generalize tx pq.1 = xc at *
      generalize tx pq.2 = xd at *
      have hnew := heap_alloc_new wq (.cells #[.string xc, .string xd] 25)
      obtain ⟨e0, e1⟩ := cells_of hnew
      have XQ := Lib.hid ((Ext.refl wq).alloc (.cells #[.string xc, .string xd] 25))
      clear hnew
      go_wp2_with fail
      generalize wq.alloc (.cells #[.string xc, .string xd] 25) = wb at *
      refine (CU.out _).mono ?_
      rintro e w3 ⟨rfl, x3⟩
      have e0 := x3.cell e0
      have e1 := x3.cell e1
      have XQ := Lib.hid (XQ.out.trans x3)
      clear x3
      rw [show (Value.string (tx .leaf)) = .string (fa 0) from by rw [FA0.out]]
      have BP : Hid ((w3.alloc (.cells #[.string (fa 0), .string (fa 0)] 25)).heap[w3.heap.size]? = some (.cells #[.string (fa 0), .string (fb 0)] 25)) := by
        rw [FB0.out, ← FA0.out]; exact heap_alloc_new w3 _
      have XP := Lib.hid ((Ext.refl w3).alloc (.cells #[.string (fa 0), .string (fa 0)] 25))
      go_wp2_with fail
      generalize w3.alloc (.cells #[.string (fa 0), .string (fa 0)] 25) = wp at *
      go_loopw [11] (fun i wr => ∃ j : Nat, j ≤ n ∧ i = .int .i64 j ∧ Hid (wr.heap[w3.heap.size]? = some (.cells #[.string (fa j), .string (fb j)] 25)) ∧ Hid (Ext w3 wr)) (fun i _ => n - (intOf i).toNat)
      case atStart => exact ⟨0, Nat.zero_le _, rfl, BP.out, XP.out⟩
      case round =>
        obtain ⟨j, hj, rfl, HB, HY⟩ := hrel
        generalize wr = wj at *
        have j0 : (0 : Int) ≤ j := by omega
        obtain ⟨p0, p1⟩ := cells_of HB.out
        have e0 := HY.out.cell e0
        have e1 := HY.out.cell e1
        by_cases hjn : j < n
        · have j1 : (j : Int) < n := by omega
          have C1 := Lib.hid (TM.out j (by omega))
          have T0 : Two wj w3.heap.size 25 := ⟨_, _, HB.out⟩
          have T0 := Lib.hid T0
          go_wp2_with fail
          refine (C1.out _).mono ?_
          rintro e w4 ⟨rfl, x4⟩
          have T1 := T0.out.ext x4
          obtain ⟨u, v, k0, k1, f0, f1⟩ := T1.facts
          have HH := Lib.hid (set2_heap T1 (.string (fa (j + 1))) (.string (fb (j + 1))))
          have XX := Lib.hid ((HY.out.trans x4).set2 (g := w3.heap.size) (Nat.le_refl _) (.string (fa (j + 1))) (.string (fb (j + 1))))
          clear T1 x4 p0 p1 e0 e1
          go_wp2_with fail
          exact ⟨⟨j + 1, by omega, by go_num, HH.out, XX.out⟩, by simp [intOf]; omega⟩
        · have j1 : (n : Int) ≤ j := by omega
          obtain rfl : j = n := by omega
          go_wp2_with fail
          refine (TX.out _).mono ?_
          rintro e w6 ⟨rfl, x6⟩
          have XW := Lib.hid (HX.out.trans ((XQ.out.trans HY.out).trans x6))
          have O6 := row_ext HO.out ((XQ.out.trans HY.out).trans x6)
          have e0 := x6.cell e0
          have e1 := x6.cell e1
          have FL2 := FL.out
          have lr2 := LR.out
          clear x6 p0 p1 d0 d1
          generalize fil (rootB (A, B) j) R q = Fq at *
          by_cases hz : zn = goal
          · have hk : rootB (A, B) j pq = true := by rw [HCq.out]; exact decide_eq_true hz
            rw [hk] at FS
            have EE : Hid (psP Fq ++ [.string xc, .string xd] = psP (fil (rootB (A, B) j) R (q + 1))) := by show _ = _; rw [FS.out, EM.out]; rfl
            have EN : Hid (Fq.length + 1 = (fil (rootB (A, B) j) R (q + 1)).length) := by show _ = _; rw [FS.out, List.length_append]; rfl
            subst hz
            have zz : (zn.toList == zn.toList) = true := by simp
            have O7 := row_ext O6 ((Ext.refl w6).alloc (.cells #[.string xc, .string xd] 25))
            have X7 := XW.out.alloc (.cells #[.string xc, .string xd] 25)
            have B7 := Lib.hid X7.size
            go_wp2_with (at_builtin; refine wpList_appK rfl (.tmp 42) (.tmp 44) 28 rfl wA.heap.size 25 _ 2 32 Tryz.underlying28 infoPr2 rfl (by omega) _ Fq.length 1 1 _ _ [.string xc, .string xd] rfl rfl O7 rfl (new_cells w6 #[.string xc, .string xd] _) (by simp [Value.oneCell']) (by unfold maxLen; omega) (by omega) B7.out ?_; intro v8 w8 o8 g8 q8)
            have X8 := Lib.hid (X7.grown g8 (fun k hk => (World.ownsRow.lt O7 k hk).1))
            rw [EE.out, EN.out] at o8
            have O8 := Lib.hid o8
            clear o8 g8 q8 O7 X7 O6
            go_wp2_with fail
            exact ⟨⟨q + 1, by omega, by go_num, O8.out, X8.out⟩, by simp [intOf]; omega⟩
          · have hk : rootB (A, B) j pq = false := by rw [HCq.out]; exact decide_eq_false hz
            rw [hk] at FS
            have EE : Hid (Fq = fil (rootB (A, B) j) R (q + 1)) := by show _ = _; rw [FS.out]; simp
            rw [EE.out] at O6
            have O8 := Lib.hid O6
            have zz : (zn.toList == goal.toList) = false := by
              cases h : (zn.toList == goal.toList) with
              | false => rfl
              | true => exact absurd (ba_ext (eq_of_beq h)) hz
            go_wp2_with fail
            exact ⟨⟨q + 1, by omega, by go_num, O8.out, XW.out⟩, by simp [intOf]; omega⟩
    · have q1 : (R.length : Int) ≤ q := by omega
      obtain rfl : q = R.length := by omega
      have O5 := HO.out
      rw [EF.out] at O5
      have O5 := Lib.hid O5
      have X5 := Lib.hid (XA.out.trans HX.out)
      have O6 := Lib.hid (row_mono O5.out XA.out.size)
      go_wp2_with fail
      go_ret2
      exact ⟨_, rfl, (by rw [EL.out, EP.out]; exact O6.out), X5.out⟩
end Go.Proofs.YtdcipaaclpedhaaGreat.N
namespace Go.Proofs.YtdcipaaclpedhaaGreat.N
open Go.RowKit
set_option maxHeartbeats 6400000 in
set_option maxRecDepth 100000 in
theorem implRO_yes (A B : Tr) (hc : A.carets = B.carets) (hB : B.carets ≤ 8) (n : Nat) (hn2 : 2 ≤ n) (hn : n ≤ 4) (w : World) : Calls Tryz.prog 6 #[.agg #[.string (tx A), .string (tx B)], .int .i64 n] w (GivesPS w (tps ((smallP 3).filter (rootB (A, B) n))) true) := by
  have CT := Lib.hid (small_calls 3 (by omega))
  have CG := Lib.hid (fun W => pairOf_yes A B hc hB W)
  have PM : Hid (∀ q ∈ smallP 3, q.1.carets = q.2.carets ∧ q.2.carets ≤ 3) := fun q hq => by
    obtain ⟨k, h1, h2, h3, _⟩ := smallP_mem hq
    omega
  have EL : Hid ((tps ((smallP 3).filter (rootB (A, B) n))).length = ((smallP 3).filter (rootB (A, B) n)).length) := tps_length _
  have EP : Hid (psT (tps ((smallP 3).filter (rootB (A, B) n))) = psP ((smallP 3).filter (rootB (A, B) n))) := rfl
  have LR : Hid ((smallP 3).length ≤ 784) := Nat.le_trans (smallP_le (3 + 1) (by omega)) (by omega)
  have EF : Hid (fil (rootB (A, B) n) (smallP 3) (smallP 3).length = (smallP 3).filter (rootB (A, B) n)) := by show _ = _; unfold fil; rw [List.take_length]
  have CM := Lib.hid (fun (C D : Tr) (h1 : C.carets = D.carets) (h2 : D.carets ≤ 3) (j : Nat) (hj : j ≤ 4) sa sb pc pd W ra rb rc rd => times_calls (powT (C, D) j).1 (powT (C, D) j).2 C D (powT_carets (q := (C, D)) h1 h2 j).1 h1 (by have := (powT_carets (q := (C, D)) h1 h2 j).2; omega) (by omega) sa sb pc pd W ra rb rc rd)
  have CR := Lib.hid (fun pa pb W (h : Rep W A pa) (h2 : Rep W B pb) => reduced_calls A B (by omega) (by omega) pa pb W h h2)
  have hq : (red (A, B)).1.carets ≤ 8 ∧ (red (A, B)).2.carets ≤ 8 := by have := red_le (A, B); simp only at this; exact ⟨by omega, by omega⟩
  have CX := Lib.hid (fun ya yb W (ha : Rep W (red (A, B)).1 ya) (hb : Rep W (red (A, B)).2 yb) => ptext_calls (red (A, B)).1 (red (A, B)).2 (by omega) (by omega) ya yb W ha hb)
  rw [show ((red (A, B)).1, (red (A, B)).2) = red (A, B) from rfl] at CX
  have HC : Hid (∀ q : TP, rootB (A, B) n q = decide (ptx (powT q n) = ptx (red (A, B)))) := fun q => rfl
  generalize ptx (red (A, B)) = goal at *
  clear hq
  have HBh : Hid (A.carets ≤ 8) := by show _ ≤ _; omega
  have HBh2 : Hid (B.carets ≤ 8) := hB
  have n0 : ¬ ((n : Int) < 2) := by omega
  have n3 : ¬ ((4 : Int) < n) := by omega
  have n33 : (2 : Int) ≤ n ∧ (n : Int) ≤ 4 := by omega
  have X0 := Lib.hid ((Ext.refl w).alloc (.cells #[.string (tx A), .string (tx B)] 25))
  generalize (smallP 3).filter (rootB (A, B) n) = F at *
  generalize tps F = TF at *
  generalize smallP 3 = R at *
  generalize hxa : tx A = xa at *
  generalize hxb : tx B = xb at *
  clear hc hB
  go_enter Tryz.func6, Tryz.ntmps6
  go_wp2_with fail
  generalize w.alloc (.cells #[.string xa, .string xb] 25) = W at *
  refine (CG.out _).mono ?_
  rintro e w1 ⟨pa, pb, rfl, ra, rb, x1⟩
  have XB := (Ext.refl w1).alloc (.cells #[.pointer pa, .pointer pb] 57)
  have RA := Lib.hid (ra.ext XB)
  have RB := Lib.hid (rb.ext XB)
  have B1 : Hid ((w1.alloc (.cells #[.pointer pa, .pointer pb] 57)).heap[w1.heap.size]? = some (.cells #[.pointer pa, .pointer pb] 57)) := heap_alloc_new w1 _
  have X1 := Lib.hid ((X0.out.trans x1).trans XB)
  clear x1 XB ra rb
  obtain ⟨k0, k1⟩ := cells_of B1.out
  go_wp2_with fail
  generalize w1.alloc (.cells #[.pointer pa, .pointer pb] 57) = wm at *
  refine (CR.out pa pb _ RA.out RB.out).mono ?_
  rintro e w8 ⟨r1, r2, rfl, hr1, hr2, x8⟩
  have X1 := Lib.hid (X1.out.trans x8)
  clear x8 k0 k1
  go_wp2_with fail
  refine (CX.out _ _ _ hr1 hr2).mono ?_
  rintro e w9 ⟨rfl, x9⟩
  have X1 := Lib.hid (X1.out.trans x9)
  clear x9 hr1 hr2
  go_wp2_with fail
  refine (CT.out _).mono ?_
  rintro e wA ⟨v1, rfl, o1, xA⟩
  obtain ⟨A1, n1, rfl⟩ := row_form o1
  have O1 := Lib.hid o1
  have XA := Lib.hid (X1.out.trans xA)
  clear o1 xA
  have lr := LR.out
  go_wp2_with fail
  go_loopw [35, 9] (fun i v wr => ∃ q : Nat, q ≤ R.length ∧ i = .int .i64 q ∧ Hid (wr.ownsRow wA.heap.size 25 2 v (fil (rootB (A, B) n) R q).length (psP (fil (rootB (A, B) n) R q))) ∧ Hid (Ext wA wr)) (fun i _ _ => R.length - (intOf i).toNat)
  case atStart => exact ⟨0, Nat.zero_le _, rfl, World.ownsRow_nil _ _ _ _, Ext.refl _⟩
  case round =>
    obtain ⟨q, hq, rfl, HO, HX⟩ := hrel
    generalize wr = wq at *
    by_cases hql : q < R.length
    · have q0 : (0 : Int) ≤ q := by omega
      have q1 : (q : Int) < R.length := by omega
      obtain ⟨g, cap, e1, hcs⟩ := new_slice_cell O1.out (by omega)
      injection e1 with e2 e4 e3
      subst e2 e3
      clear e4
      have hg : R[q]? = some R[q] := List.getElem?_eq_getElem hql
      obtain ⟨g0, g1⟩ := psP_get R q _ hg
      have d0 := HX.out.cell (hcs _ _ g0)
      have d1 := HX.out.cell (hcs _ _ g1)
      have FS := Lib.hid (fil_step (rootB (A, B) n) R q _ hg)
      have FL := Lib.hid (fil_length (rootB (A, B) n) R q)
      have hp := PM.out _ (List.getElem_mem hql)
      obtain ⟨fa, fb, f0, TM, TX⟩ : ∃ fa fb : Nat → Tr, (∀ W, Rep W (fa 0) none ∧ Rep W (fb 0) none) ∧
          (∀ j, j ≤ 4 → ∀ sa sb pc pd W, Rep W (fa j) sa → Rep W (fb j) sb → Rep W R[q].1 pc → Rep W R[q].2 pd → Calls Tryz.prog 34 #[.agg #[.pointer sa, .pointer sb], .agg #[.pointer pc, .pointer pd]] W (GivesP W (fa (j + 1)) (fb (j + 1)))) ∧
          (∀ ya yb W, Rep W (fa n) ya → Rep W (fb n) yb → Calls Tryz.prog 32 #[.agg #[.pointer ya, .pointer yb]] W fun e w' => e = .returned (.string (ptx (powT R[q] n))) ∧ Ext W w') :=
        ⟨fun j => (powT R[q] j).1, fun j => (powT R[q] j).2, fun W => ⟨rfl, rfl⟩, fun j hj sa sb pc pd W ra rb rc rd => CM.out R[q].1 R[q].2 hp.1 hp.2 j hj sa sb pc pd W ra rb rc rd,
          fun ya yb W ha hb => ptext_calls (powT R[q] n).1 (powT R[q] n).2 (by have := powT_carets hp.1 hp.2 n; omega) (by have := powT_carets hp.1 hp.2 n; omega) ya yb W ha hb⟩
      have F0 := Lib.hid f0
      have TM := Lib.hid TM
      have TX := Lib.hid TX
      have HCq : Hid (rootB (A, B) n R[q] = decide (ptx (powT R[q] n) = goal)) := HC.out _
      have EM : Hid (∀ l : List TP, psP l ++ [.string (tx R[q].1), .string (tx R[q].2)] = psP (l ++ [R[q]])) := fun l => by rw [psP_append]; rfl
      have CP := Lib.hid (fun W => pairOf_yes R[q].1 R[q].2 hp.1 (by omega) W)
      clear hp f0
      generalize ptx (powT R[q] n) = zn at *
      generalize R[q] = pq at *
      generalize pq.1 = qa at *
      generalize pq.2 = qb at *
      generalize tx qa = xc at *
      generalize tx qb = xd at *
      have hnew := heap_alloc_new wq (.cells #[.string xc, .string xd] 25)
      obtain ⟨e0, e1⟩ := cells_of hnew
      have XQ := (Ext.refl wq).alloc (.cells #[.string xc, .string xd] 25)
      have XQ := Lib.hid XQ
      clear hnew
      go_wp2_with fail
      generalize wq.alloc (.cells #[.string xc, .string xd] 25) = wb0 at *
      refine (CP.out _).mono ?_
      rintro e w9 ⟨pc, pd, rfl, rc, rd, x9⟩
      have e0 := x9.cell e0
      have e1 := x9.cell e1
      have XN := (Ext.refl w9).alloc (.cells #[.pointer pc, .pointer pd] 57)
      have hnew := heap_alloc_new w9 (.cells #[.pointer pc, .pointer pd] 57)
      obtain ⟨y0, y1⟩ := cells_of hnew
      have XM := (Ext.refl (w9.alloc (.cells #[.pointer pc, .pointer pd] 57))).alloc (.cells #[.pointer none, .pointer none] 57)
      have TN := Lib.hid (Two.new (w9.alloc (.cells #[.pointer pc, .pointer pd] 57)) (.pointer none) (.pointer none) 57 (n := w9.heap.size + 1) (Array.size_push _))
      have BN : Hid (((w9.alloc (.cells #[.pointer pc, .pointer pd] 57)).alloc (.cells #[.pointer none, .pointer none] 57)).heap[w9.heap.size + 1]? = some (.cells #[.pointer none, .pointer none] 57)) := by
        have h := heap_alloc_new (w9.alloc (.cells #[.pointer pc, .pointer pd] 57)) (.cells #[.pointer none, .pointer none] 57)
        rw [show (w9.alloc (.cells #[.pointer pc, .pointer pd] 57)).heap.size = w9.heap.size + 1 from Array.size_push _] at h
        exact h
      have X2 := XN.trans XM
      have e0 := X2.cell e0
      have e1 := X2.cell e1
      have y0 := XM.cell y0
      have y1 := XM.cell y1
      have GQ := Lib.hid (XQ.out.trans x9).size
      have XQ := Lib.hid ((XQ.out.trans x9).trans X2)
      have RC := Lib.hid (rc.ext X2)
      have RD := Lib.hid (rd.ext X2)
      have G9 : Hid (wq.heap.size ≠ w9.heap.size + 1) := by show _ ≠ _; have := GQ.out; omega
      clear hnew XN XM X2 rc rd x9
      go_wp2_with fail
      generalize (w9.alloc (.cells #[.pointer pc, .pointer pd] 57)).alloc (.cells #[.pointer none, .pointer none] 57) = wp at *
      have Y0 := Lib.hid (And.intro (And.intro e0 e1) (And.intro y0 y1))
      have HQ9 : Hid (∀ W, (W.heap[w9.heap.size]? = wp.heap[w9.heap.size]? ∧ W.heap[wq.heap.size]? = wp.heap[wq.heap.size]?) ∧ Ext wq W → w9.heap.size < W.heap.size ∧ wq.heap.size < W.heap.size) := fun W h => ⟨World.block_lt_of_cell? W ⟨w9.heap.size, 0, none⟩ ((World.cell?_of_block (a := ⟨w9.heap.size, 0, none⟩) h.1.1).trans y0), World.block_lt_of_cell? W ⟨wq.heap.size, 0, none⟩ ((World.cell?_of_block (a := ⟨wq.heap.size, 0, none⟩) h.1.2).trans e0)⟩
      clear e0 e1 y0 y1
      go_loopw [45] (fun i wr => ∃ j : Nat, j ≤ n ∧ i = .int .i64 j ∧ ∃ sa sb, Hid (wr.heap[w9.heap.size + 1]? = some (.cells #[.pointer sa, .pointer sb] 57)) ∧ Hid (Rep wr (fa j) sa) ∧ Hid (Rep wr (fb j) sb) ∧ Hid (wr.heap[w9.heap.size]? = wp.heap[w9.heap.size]? ∧ wr.heap[wq.heap.size]? = wp.heap[wq.heap.size]?) ∧ Hid (Ext wq wr) ∧ Hid (Rep wr qa pc) ∧ Hid (Rep wr qb pd)) (fun i _ => n - (intOf i).toNat)
      case atStart => exact ⟨0, Nat.zero_le _, rfl, none, none, BN.out, (F0.out _).1, (F0.out _).2, ⟨rfl, rfl⟩, XQ.out, RC.out, RD.out⟩
      case round =>
        obtain ⟨j, hj, rfl, sa, sb, HB, HA1, HB1, HS, HY, HRC, HRD⟩ := hrel
        generalize wr = wj at *
        have j0 : (0 : Int) ≤ j := by omega
        obtain ⟨p0, p1⟩ := cells_of HB.out
        have y0 := (World.cell?_of_block (a := ⟨w9.heap.size, 0, none⟩) HS.out.1).trans Y0.out.2.1
        have y1 := (World.cell?_of_block (a := ⟨w9.heap.size, 1, none⟩) HS.out.1).trans Y0.out.2.2
        by_cases hjn : j < n
        · have j1 : (j : Int) < n := by omega
          have C1 := Lib.hid (TM.out j (by have := n33; omega) sa sb pc pd wj HA1.out HB1.out HRC.out HRD.out)
          have T0 : Two wj (w9.heap.size + 1) 57 := ⟨_, _, HB.out⟩
          have T0 := Lib.hid T0
          go_wp2_with fail
          refine (C1.out).mono ?_
          rintro e w4 ⟨s1, s2, rfl, r1', r2', x4⟩
          have T1 := T0.out.ext x4
          obtain ⟨u, v, k0, k1, f0, f1⟩ := T1.facts
          have HH := Lib.hid (set2_heap T1 (.pointer s1) (.pointer s2))
          have Q1 := Lib.hid (Rep.set2 T1 (by decide) (.pointer s1) (.pointer s2) r1')
          have Q2 := Lib.hid (Rep.set2 T1 (by decide) (.pointer s1) (.pointer s2) r2')
          have Q3 := Lib.hid (Rep.set2 T1 (by decide) (.pointer s1) (.pointer s2) (HRC.out.ext x4))
          have Q4 := Lib.hid (Rep.set2 T1 (by decide) (.pointer s1) (.pointer s2) (HRD.out.ext x4))
          have XX := Lib.hid ((HY.out.trans x4).set2 (g := w9.heap.size + 1) (by have := GQ.out; omega) (.pointer s1) (.pointer s2))
          have B1' := x4.block w9.heap.size (HQ9.out wj (And.intro HS.out HY.out)).1
          have B2' := x4.block wq.heap.size (HQ9.out wj (And.intro HS.out HY.out)).2
          have SS := Lib.hid (And.intro ((set2_other (w := w4) (g := w9.heap.size + 1) (k := w9.heap.size) (by omega) (.pointer s1) (.pointer s2)).trans (B1'.trans HS.out.1)) ((set2_other (w := w4) (g := w9.heap.size + 1) (k := wq.heap.size) G9.out (.pointer s1) (.pointer s2)).trans (B2'.trans HS.out.2)))
          clear T1 x4 p0 p1 y0 y1 r1' r2' B1' B2'
          go_wp2_with fail
          exact ⟨⟨j + 1, by omega, by go_num, s1, s2, HH.out, Q1.out, Q2.out, SS.out, XX.out, Q3.out, Q4.out⟩, by simp [intOf]; omega⟩
        · have j1 : (n : Int) ≤ j := by omega
          obtain rfl : j = n := by omega
          have C1 := Lib.hid (TX.out sa sb wj HA1.out HB1.out)
          go_wp2_with fail
          refine (C1.out).mono ?_
          rintro e w6 ⟨rfl, x6⟩
          have XW := Lib.hid (HX.out.trans (HY.out.trans x6))
          have O6 := row_ext HO.out (HY.out.trans x6)
          have e0 := x6.cell ((World.cell?_of_block (a := ⟨wq.heap.size, 0, none⟩) HS.out.2).trans Y0.out.1.1)
          have e1 := x6.cell ((World.cell?_of_block (a := ⟨wq.heap.size, 1, none⟩) HS.out.2).trans Y0.out.1.2)
          have FL2 := FL.out
          have lr2 := LR.out
          clear x6 p0 p1 d0 d1 y0 y1
          generalize fil (rootB (A, B) j) R q = Fq at *
          by_cases hz : zn = goal
          · have hk : rootB (A, B) j pq = true := by rw [HCq.out]; exact decide_eq_true hz
            rw [hk] at FS
            have EE : Hid (psP Fq ++ [.string xc, .string xd] = psP (fil (rootB (A, B) j) R (q + 1))) := by show _ = _; rw [FS.out, EM.out]; rfl
            have EN : Hid (Fq.length + 1 = (fil (rootB (A, B) j) R (q + 1)).length) := by show _ = _; rw [FS.out, List.length_append]; rfl
            subst hz
            have zz : (zn.toList == zn.toList) = true := by simp
            have O7 := row_ext O6 ((Ext.refl w6).alloc (.cells #[.string xc, .string xd] 25))
            have X7 := XW.out.alloc (.cells #[.string xc, .string xd] 25)
            have B7 := Lib.hid X7.size
            go_wp2_with (at_builtin; refine wpList_appK rfl (.tmp 55) (.tmp 57) 28 rfl wA.heap.size 25 _ 2 32 Tryz.underlying28 infoPr2 rfl (by omega) _ Fq.length 1 1 _ _ [.string xc, .string xd] rfl rfl O7 rfl (new_cells w6 #[.string xc, .string xd] _) (by simp [Value.oneCell']) (by unfold maxLen; omega) (by omega) B7.out ?_; intro v8 w8 o8 g8 q8)
            have X8 := Lib.hid (X7.grown g8 (fun k hk => (World.ownsRow.lt O7 k hk).1))
            rw [EE.out, EN.out] at o8
            have O8 := Lib.hid o8
            clear o8 g8 q8 O7 X7 O6
            go_wp2_with fail
            exact ⟨⟨q + 1, by omega, by go_num, O8.out, X8.out⟩, by simp [intOf]; omega⟩
          · have hk : rootB (A, B) j pq = false := by rw [HCq.out]; exact decide_eq_false hz
            rw [hk] at FS
            have EE : Hid (Fq = fil (rootB (A, B) j) R (q + 1)) := by show _ = _; rw [FS.out]; simp
            rw [EE.out] at O6
            have O8 := Lib.hid O6
            have zz : (zn.toList == goal.toList) = false := by
              cases h : (zn.toList == goal.toList) with
              | false => rfl
              | true => exact absurd (ba_ext (eq_of_beq h)) hz
            go_wp2_with fail
            exact ⟨⟨q + 1, by omega, by go_num, O8.out, XW.out⟩, by simp [intOf]; omega⟩
    · have q1 : (R.length : Int) ≤ q := by omega
      obtain rfl : q = R.length := by omega
      have O5 := HO.out
      rw [EF.out] at O5
      have O5 := Lib.hid O5
      have X5 := Lib.hid (XA.out.trans HX.out)
      have O6 := Lib.hid (row_mono O5.out XA.out.size)
      go_wp2_with fail
      go_ret2
      exact ⟨_, rfl, (by rw [EL.out, EP.out]; exact O6.out), X5.out⟩
end Go.Proofs.YtdcipaaclpedhaaGreat.N
namespace Go.Proofs.YtdcipaaclpedhaaGreat.N
open Go.RowKit
set_option maxHeartbeats 3200000 in
theorem specRO_no (s t : ByteArray) (n : Int) (h : ¬ (Good s t ∧ 2 ≤ n ∧ n ≤ 4)) (w : World) : Calls Tryz.prog 7 #[.agg #[.string s, .string t], .int .i64 n] w (GivesPS w [] false) := by
  have X0 := Lib.hid ((Ext.refl w).alloc (.cells #[.string s, .string t] 25))
  have CI := Lib.hid (fun W => l1In_calls n 2 4 W)
  by_cases hg : Good s t
  · have hr : ¬ (2 ≤ n ∧ n ≤ 4) := fun k => h ⟨hg, k⟩
    obtain ⟨A, B, rfl, rfl, h1, h2⟩ := hg
    have CG := Lib.hid (fun W => prGood_yes A B h1 h2 W)
    rw [decide_eq_false hr] at CI
    clear h h1 h2 hr
    generalize tx A = s at *
    generalize tx B = t at *
    go_enter Tryz.func7, Tryz.ntmps7
    go_wp2_with fail
    generalize w.alloc (.cells #[.string s, .string t] 25) = W at *
    refine (CG.out _).mono ?_
    rintro e w1 ⟨rfl, x1⟩
    have X1 := Lib.hid (X0.out.trans x1)
    clear x1
    go_wp2_with fail
    refine (CI.out _).mono ?_
    rintro e w0 ⟨rfl, rfl⟩
    go_wp2_with fail
    go_ret2
    exact ⟨_, rfl, World.ownsRow_nil _ _ _ _, X1.out⟩
  · have CG := Lib.hid (fun W => prGood_no s t hg W)
    clear h hg
    go_enter Tryz.func7, Tryz.ntmps7
    go_wp2_with fail
    generalize w.alloc (.cells #[.string s, .string t] 25) = W at *
    refine (CG.out _).mono ?_
    rintro e w1 ⟨rfl, x1⟩
    have X1 := Lib.hid (X0.out.trans x1)
    clear x1
    go_wp2_with fail
    go_ret2
    exact ⟨_, rfl, World.ownsRow_nil _ _ _ _, X1.out⟩
set_option maxHeartbeats 3200000 in
theorem implRO_no (s t : ByteArray) (n : Int) (h : ¬ (Good s t ∧ 2 ≤ n ∧ n ≤ 4)) (w : World) : Calls Tryz.prog 6 #[.agg #[.string s, .string t], .int .i64 n] w (GivesPS w [] false) := by
  have X0 := Lib.hid ((Ext.refl w).alloc (.cells #[.string s, .string t] 25))
  by_cases hg : Good s t
  · have hr : ¬ (2 ≤ n ∧ n ≤ 4) := fun k => h ⟨hg, k⟩
    obtain ⟨A, B, rfl, rfl, h1, h2⟩ := hg
    have CG := Lib.hid (fun W => pairOf_yes A B h1 h2 W)
    clear h h1 h2
    generalize tx A = s at *
    generalize tx B = t at *
    by_cases n0 : n < 2
    · clear hr
      go_enter Tryz.func6, Tryz.ntmps6
      go_wp2_with fail
      generalize w.alloc (.cells #[.string s, .string t] 25) = W at *
      refine (CG.out _).mono ?_
      rintro e w1 ⟨pa, pb, rfl, ra, rb, x1⟩
      have X1 := Lib.hid ((X0.out.trans x1).alloc (.cells #[.pointer pa, .pointer pb] 57))
      clear x1 ra rb
      go_wp2_with fail
      go_ret2
      exact ⟨_, rfl, World.ownsRow_nil _ _ _ _, X1.out⟩
    · have n3 : 4 < n := by omega
      have n1 : 2 ≤ n := by omega
      clear hr
      go_enter Tryz.func6, Tryz.ntmps6
      go_wp2_with fail
      generalize w.alloc (.cells #[.string s, .string t] 25) = W at *
      refine (CG.out _).mono ?_
      rintro e w1 ⟨pa, pb, rfl, ra, rb, x1⟩
      have X1 := Lib.hid ((X0.out.trans x1).alloc (.cells #[.pointer pa, .pointer pb] 57))
      clear x1 ra rb
      go_wp2_with fail
      go_ret2
      exact ⟨_, rfl, World.ownsRow_nil _ _ _ _, X1.out⟩
  · have CG := Lib.hid (fun W => pairOf_no s t hg W)
    clear h hg
    go_enter Tryz.func6, Tryz.ntmps6
    go_wp2_with fail
    generalize w.alloc (.cells #[.string s, .string t] 25) = W at *
    refine (CG.out _).mono ?_
    rintro e w1 ⟨pa, pb, rfl, x1⟩
    have X1 := Lib.hid ((X0.out.trans x1).alloc (.cells #[.pointer pa, .pointer pb] 57))
    clear x1
    go_wp2_with fail
    go_ret2
    exact ⟨_, rfl, World.ownsRow_nil _ _ _ _, X1.out⟩
end Go.Proofs.YtdcipaaclpedhaaGreat.N
namespace Go.Proofs.YtdcipaaclpedhaaGreat.N
open Go.RowKit
def powF (p : TP) : Nat → Option TP
  | 0 => some one
  | k + 1 => (powF p k).bind fun q => if (mul q p).1.carets ≤ 8 then some (mul q p) else none
theorem powF_eq {p : TP} : ∀ {k : Nat} {r : TP}, powF p k = some r → r = powT p k
  | 0, r, h => (Option.some.inj h).symm
  | k + 1, r, h => by
    simp only [powF] at h
    cases hq : powF p k with
    | none => rw [hq] at h; cases h
    | some q =>
      rw [hq, Option.bind_some] at h
      split at h
      · rw [← Option.some.inj h, powF_eq hq]; rfl
      · cases h
theorem powF_ok {p : TP} (hp : p.1.carets = p.2.carets) : ∀ {k : Nat} {r : TP}, powF p k = some r → r.1.carets = r.2.carets ∧ r.2.carets ≤ 8
  | 0, r, h => by rw [← Option.some.inj h]; exact ⟨rfl, Nat.zero_le _⟩
  | k + 1, r, h => by
    simp only [powF] at h
    cases hq : powF p k with
    | none => rw [hq] at h; cases h
    | some q =>
      rw [hq, Option.bind_some] at h
      obtain ⟨h1, h2⟩ := powF_ok hp hq
      have := (mul_carets (p := q) (q := p) h1 hp).1
      split at h
      · rw [← Option.some.inj h]; exact ⟨this, by omega⟩
      · cases h
theorem powF_none {p : TP} : ∀ {k n : Nat}, k ≤ n → powF p k = none → powF p n = none
  | k, 0, hk, h => by obtain rfl : k = 0 := (by omega); exact h
  | k, n + 1, hk, h => by
    by_cases e : k = n + 1
    · rw [← e]; exact h
    · simp only [powF]; rw [powF_none (show k ≤ n by omega) h]; rfl
set_option maxHeartbeats 6400000 in
set_option maxRecDepth 100000 in
theorem power_calls (A B : Tr) (hc : A.carets = B.carets) (hB : B.carets ≤ 8) (n : Nat) (hn : n ≤ 10) (pa pb : Option Addr) (w : World) (ra : Rep w A pa) (rb : Rep w B pb) :
    Calls Tryz.prog 40 #[.agg #[.pointer pa, .pointer pb], .int .i64 n] w fun e w' => ∃ pc pd ok, e = .returned (.tuple #[.agg #[.pointer pc, .pointer pd], .bool ok]) ∧ Ext w w' ∧ ok = (powF (A, B) n).isSome ∧ ∀ r, powF (A, B) n = some r → Rep w' r.1 pc ∧ Rep w' r.2 pd := by
  have b0 := heap_alloc_new w (.cells #[.pointer pa, .pointer pb] 57)
  have b1 := heap_alloc_new (w.alloc (.cells #[.pointer pa, .pointer pb] 57)) (.cells #[.pointer none, .pointer none] 57)
  have b2 := heap_alloc_new ((w.alloc (.cells #[.pointer pa, .pointer pb] 57)).alloc (.cells #[.pointer none, .pointer none] 57)) (.cells #[.pointer none, .pointer none] 57)
  rw [show (w.alloc (.cells #[.pointer pa, .pointer pb] 57)).heap.size = w.heap.size + 1 from Array.size_push _] at b1
  rw [show ((w.alloc (.cells #[.pointer pa, .pointer pb] 57)).alloc (.cells #[.pointer none, .pointer none] 57)).heap.size = w.heap.size + 1 + 1 by rw [show ∀ (W : World) o, (W.alloc o).heap.size = W.heap.size + 1 from fun W o => Array.size_push _, show (w.alloc (.cells #[.pointer pa, .pointer pb] 57)).heap.size = w.heap.size + 1 from Array.size_push _]] at b2
  have x1 := (Ext.refl w).alloc (.cells #[.pointer pa, .pointer pb] 57)
  have x2 := (Ext.refl (w.alloc (.cells #[.pointer pa, .pointer pb] 57))).alloc (.cells #[.pointer none, .pointer none] 57)
  have x3 := (Ext.refl ((w.alloc (.cells #[.pointer pa, .pointer pb] 57)).alloc (.cells #[.pointer none, .pointer none] 57))).alloc (.cells #[.pointer none, .pointer none] 57)
  have B0 := Lib.hid ((x2.trans x3).at b0)
  have B1 := Lib.hid (x3.at b1)
  have B2 := Lib.hid b2
  have X0 := Lib.hid (x1.trans (x2.trans x3))
  have RA := Lib.hid ra
  have RB := Lib.hid rb
  have n0 : ¬ ((n : Int) < 0) := by omega
  have TM := Lib.hid (fun (r : TP) (h1 : r.1.carets = r.2.carets) (h2 : r.2.carets ≤ 8) (sa sb : Option Addr) W rx ry ru rv => times_calls r.1 r.2 A B h1 hc (by omega) (by omega) sa sb pa pb W rx ry ru rv)
  have MC := Lib.hid (fun (r : TP) (h1 : r.1.carets = r.2.carets) (h2 : r.2.carets ≤ 8) => (mul_carets (p := r) (q := (A, B)) h1 hc : _))
  have HBh : Hid (A.carets ≤ 8) := by show _ ≤ _; omega
  clear b0 b1 b2 x1 x2 x3 ra rb
  go_enter Tryz.func40, Tryz.ntmps40
  go_wp2_with fail
  generalize ((w.alloc (.cells #[.pointer pa, .pointer pb] 57)).alloc (.cells #[.pointer none, .pointer none] 57)).alloc (.cells #[.pointer none, .pointer none] 57) = W0 at *
  go_loopw [9] (fun i wr => ∃ j : Nat, j ≤ n ∧ i = .int .i64 j ∧ ∃ (r : TP) (sa sb : Option Addr), Hid (powF (A, B) j = some r) ∧ Hid (wr.heap[w.heap.size + 1 + 1]? = some (.cells #[.pointer sa, .pointer sb] 57)) ∧ Hid (Rep wr r.1 sa ∧ Rep wr r.2 sb) ∧ Hid (wr.heap[w.heap.size]? = W0.heap[w.heap.size]? ∧ wr.heap[w.heap.size + 1]? = W0.heap[w.heap.size + 1]?) ∧ Hid (Ext w wr)) (fun i _ => n - (intOf i).toNat)
  case atStart => exact ⟨0, Nat.zero_le _, rfl, one, none, none, rfl, B2.out, ⟨rfl, rfl⟩, ⟨rfl, rfl⟩, X0.out⟩
  case round =>
    obtain ⟨j, hj, rfl, r, sa, sb, HP, HB, HR, HS, HY⟩ := hrel
    generalize wr = wj at *
    have j0 : (0 : Int) ≤ j := by omega
    obtain ⟨p0, p1⟩ := cells_of HB.out
    have hb0 := HS.out.1.trans B0.out
    have hb1 := HS.out.2.trans B1.out
    obtain ⟨y0, y1⟩ := cells_of hb0
    have HK := powF_ok (p := (A, B)) hc HP.out
    by_cases hjn : j < n
    · have j1 : (j : Int) < n := by omega
      have C1 := Lib.hid (TM.out r HK.1 HK.2 sa sb wj HR.out.1 HR.out.2 (RA.out.ext HY.out) (RB.out.ext HY.out))
      have mm := MC.out r HK.1 HK.2
      have mb : (mul r (A, B)).1.carets < 1000000000 := by have := HBh.out; omega
      have PN : Hid (powF (A, B) (j + 1) = if (mul r (A, B)).1.carets ≤ 8 then some (mul r (A, B)) else none) := by show (powF (A, B) j).bind _ = _; rw [HP.out]; rfl
      have C2 := Lib.hid (fun p W h => carets_calls (mul r (A, B)).1 p W mb h)
      generalize mul r (A, B) = m at *
      have T0 : Two wj (w.heap.size + 1 + 1) 57 := ⟨_, _, HB.out⟩
      have T0 := Lib.hid T0
      have T5 := Lib.hid (show Two wj (w.heap.size + 1) 57 from ⟨_, _, hb1⟩)
      have hb0 := Lib.hid hb0
      have hb1 := Lib.hid hb1
      clear mm HK
      go_wp2_with fail
      refine (C1.out).mono ?_
      rintro e w4 ⟨s1, s2, rfl, r1', r2', x4⟩
      have T1 := T0.out.ext x4
      obtain ⟨u, v, k0, k1, f0, f1⟩ := T1.facts
      have hh := set2_heap T1 (.pointer s1) (.pointer s2)
      obtain ⟨q0, q1⟩ := cells_of hh
      have HH := Lib.hid hh
      have Q1 := Lib.hid (Rep.set2 T1 (by decide) (.pointer s1) (.pointer s2) r1')
      have Q2 := Lib.hid (Rep.set2 T1 (by decide) (.pointer s1) (.pointer s2) r2')
      have XX := Lib.hid ((HY.out.trans x4).set2 (g := w.heap.size + 1 + 1) (by omega) (.pointer s1) (.pointer s2))
      have SS := Lib.hid (And.intro ((set2_other (w := w4) (g := w.heap.size + 1 + 1) (k := w.heap.size) (by omega) (.pointer s1) (.pointer s2)).trans (x4.at hb0.out)) ((set2_other (w := w4) (g := w.heap.size + 1 + 1) (k := w.heap.size + 1) (by omega) (.pointer s1) (.pointer s2)).trans (x4.at hb1.out)))
      clear T1 x4 p0 p1 y0 y1 r1' r2' hh
      go_wp2_with fail
      change Calls _ _ _ (N.set2 w4 (w.heap.size + 1 + 1) (.pointer s1) (.pointer s2)) _
      have q0' := Lib.hid (And.intro q0 q1)
      clear q0 q1 k0 k1 f0 f1
      generalize N.set2 w4 (w.heap.size + 1 + 1) (.pointer s1) (.pointer s2) = W5 at *
      refine (C2.out s1 W5 Q1.out).mono ?_
      rintro e w6 ⟨rfl, n6, rfl⟩
      have XD := Lib.hid ((Ext.refl W5).drewN n6)
      generalize W5.drewN n6 = W6 at *
      have X6 := Lib.hid (XX.out.trans XD.out)
      have H6 := Lib.hid (XD.out.at HH.out)
      have Q1 := Lib.hid (And.intro (Q1.out.ext XD.out) (Q2.out.ext XD.out))
      have S0 := Lib.hid (XD.out.at SS.out.1)
      have S1 := Lib.hid (XD.out.at SS.out.2)
      by_cases h8 : m.1.carets ≤ 8
      · have t8 : ¬ ((8 : Int) < m.1.carets) := by omega
        rw [if_pos h8] at PN
        go_wp2_with fail
        exact ⟨⟨j + 1, by omega, by go_num, m, s1, s2, PN.out, H6.out, Q1.out, ⟨S0.out.trans B0.out.symm, S1.out.trans B1.out.symm⟩, X6.out⟩, by simp [intOf]; omega⟩
      · have t8 : (8 : Int) < m.1.carets := by omega
        rw [if_neg h8] at PN
        have PN2 := powF_none (show j + 1 ≤ n by omega) PN.out
        have T6 : Two W6 (w.heap.size + 1) 57 := ⟨_, _, S1.out⟩
        obtain ⟨u2, v2, k0, k1, f0, f1⟩ := T6.facts
        obtain ⟨q0, q1⟩ := cells_of H6.out
        have hh := set2_heap T6 (.pointer s1) (.pointer s2)
        have XX := X6.out.set2 (g := w.heap.size + 1) (by omega) (.pointer s1) (.pointer s2)
        go_wp2_with fail
        change bodyPost _ _ _ _ _ (N.set2 W6 (w.heap.size + 1) (.pointer s1) (.pointer s2))
        obtain ⟨hc0, hc1⟩ := cells_of hh
        generalize N.set2 W6 (w.heap.size + 1) (.pointer s1) (.pointer s2) = W7 at *
        refine bodyPost_ret (v := .tuple #[.agg #[.pointer s1, .pointer s2], .bool false]) (by simp [results, Tryz.results40, go_sem, hc0, hc1]) rfl ?_
        exact ⟨s1, s2, false, rfl, XX, by rw [PN2]; rfl, fun r h => by rw [PN2] at h; cases h⟩
    · have j1 : (n : Int) ≤ j := by omega
      obtain rfl : j = n := by omega
      have T6 : Two wj (w.heap.size + 1) 57 := ⟨_, _, hb1⟩
      obtain ⟨u2, v2, k0, k1, f0, f1⟩ := T6.facts
      have hh := set2_heap T6 (.pointer sa) (.pointer sb)
      have XX := HY.out.set2 (g := w.heap.size + 1) (by omega) (.pointer sa) (.pointer sb)
      have Q1 := Lib.hid (Rep.set2 T6 (by decide) (.pointer sa) (.pointer sb) HR.out.1)
      have Q2 := Lib.hid (Rep.set2 T6 (by decide) (.pointer sa) (.pointer sb) HR.out.2)
      clear hb0 hb1 y0 y1
      go_wp2_with fail
      change bodyPost _ _ _ _ _ (N.set2 wj (w.heap.size + 1) (.pointer sa) (.pointer sb))
      obtain ⟨hc0, hc1⟩ := cells_of hh
      generalize N.set2 wj (w.heap.size + 1) (.pointer sa) (.pointer sb) = W7 at *
      refine bodyPost_ret (v := .tuple #[.agg #[.pointer sa, .pointer sb], .bool true]) (by simp [results, Tryz.results40, go_sem, hc0, hc1]) rfl ?_
      exact ⟨sa, sb, true, rfl, XX, by rw [HP.out]; rfl, fun r' h => by rw [HP.out] at h; obtain rfl := Option.some.inj h; exact ⟨Q1.out, Q2.out⟩⟩
set_option maxHeartbeats 6400000 in
set_option maxRecDepth 100000 in
theorem PowerPair_yes (A B : Tr) (hc : A.carets = B.carets) (hB : B.carets ≤ 8) (n : Nat) (hn : n ≤ 10) (w : World) :
    Calls Tryz.prog 9 #[.agg #[.string (tx A), .string (tx B)], .int .i64 n] w fun e w' => e = .returned (match powF (A, B) n with
      | some r => .tuple #[.agg #[.string (tx r.1), .string (tx r.2)], .bool true]
      | none => .tuple #[.agg #[.string ⟨#[]⟩, .string ⟨#[]⟩], .bool false]) ∧ Ext w w' := by
  obtain ⟨X2, t0⟩ := boxS_facts w (tx A) (tx B) (.string ⟨#[]⟩) (.string ⟨#[]⟩) 25
  have X2 := Lib.hid X2
  obtain ⟨b0, b1⟩ := cells_of (((Ext.refl (w.alloc (.cells #[.string (tx A), .string (tx B)] 25))).alloc (.cells #[.string ⟨#[]⟩, .string ⟨#[]⟩] 25)).at (heap_alloc_new w (.cells #[.string (tx A), .string (tx B)] 25)))
  have C1 := Lib.hid (pairOf_yes A B hc hB)
  have C2 := Lib.hid (fun pa pb W ra rb => power_calls A B hc hB n hn pa pb W ra rb)
  have PO := Lib.hid (fun r (h : powF (A, B) n = some r) => powF_ok (p := (A, B)) hc h)
  have n0 : ¬ ((n : Int) < 0) := by omega
  have n10 : ¬ ((10 : Int) < n) := by omega
  have nm : ¬ ((n : Int) < -10) := by omega
  generalize powF (A, B) n = F at *
  clear hc hB hn
  go_enter Tryz.func9, Tryz.ntmps9
  go_wp2_with fail
  generalize (w.alloc (.cells #[.string (tx A), .string (tx B)] 25)).alloc (.cells #[.string ⟨#[]⟩, .string ⟨#[]⟩] 25) = W at *
  refine (C1.out _).mono ?_
  rintro e w1 ⟨pa, pb, rfl, rA, rB, x1⟩
  have xx := (Ext.refl w1).alloc (.cells #[.pointer pa, .pointer pb] 57)
  have X1 := Lib.hid (X2.out.trans (x1.trans xx))
  have T1 := Lib.hid (t0.ext (x1.trans xx))
  have RA := Lib.hid (rA.ext xx)
  have RB := Lib.hid (rB.ext xx)
  obtain ⟨c0, c1⟩ := cells_of (heap_alloc_new w1 (.cells #[.pointer pa, .pointer pb] 57))
  clear rA rB xx x1 t0 b0 b1
  go_wp2_with fail
  generalize w1.alloc (.cells #[.pointer pa, .pointer pb] 57) = W1 at *
  refine (C2.out pa pb _ RA.out RB.out).mono ?_
  rintro e w2 ⟨pc, pd, ok, rfl, x2, hok, hr⟩
  have xx := (Ext.refl w2).alloc (.cells #[.pointer pc, .pointer pd] 57)
  have XX := Lib.hid (X1.out.trans (x2.trans xx))
  have T2 := Lib.hid (T1.out.ext (x2.trans xx))
  obtain ⟨d0, d1⟩ := cells_of (heap_alloc_new w2 (.cells #[.pointer pc, .pointer pd] 57))
  clear c0 c1
  cases F with
  | none =>
    obtain rfl : ok = false := hok
    obtain ⟨u, v, k0, k1, f0, f1⟩ := T2.out.facts
    have hh := set2_heap T2.out (.string ⟨#[]⟩) (.string ⟨#[]⟩)
    have XS := XX.out.set2 (g := w.heap.size + 1) (by omega) (.string ⟨#[]⟩) (.string ⟨#[]⟩)
    clear hr xx x2
    go_wp2_with fail
    change bodyPost _ _ _ _ _ (N.set2 _ (w.heap.size + 1) (.string ⟨#[]⟩) (.string ⟨#[]⟩))
    obtain ⟨hc0, hc1⟩ := cells_of hh
    generalize N.set2 _ (w.heap.size + 1) (.string ⟨#[]⟩) (.string ⟨#[]⟩) = W7 at *
    exact bodyPost_ret (v := .tuple #[.agg #[.string ⟨#[]⟩, .string ⟨#[]⟩], .bool false]) (by simp [results, Tryz.results9, go_sem, hc0, hc1]) rfl ⟨rfl, XS⟩
  | some r =>
    obtain rfl : ok = true := hok
    obtain ⟨r1, r2⟩ := hr r rfl
    have R1 := Lib.hid (r1.ext xx)
    have R2 := Lib.hid (r2.ext xx)
    obtain ⟨h1, h2⟩ := PO.out r rfl
    have C3 := Lib.hid (fun W ra rb => plain_calls r.1 r.2 (by omega) (by omega) pc pd W ra rb)
    clear hr xx x2 r1 r2 PO
    go_wp2_with fail
    generalize w2.alloc (.cells #[.pointer pc, .pointer pd] 57) = W2 at *
    refine (C3.out _ R1.out R2.out).mono ?_
    rintro e w3 ⟨rfl, x3⟩
    have T3 := T2.out.ext x3
    obtain ⟨u, v, k0, k1, f0, f1⟩ := T3.facts
    have hh := set2_heap T3 (.string (tx r.1)) (.string (tx r.2))
    have XS := (XX.out.trans x3).set2 (g := w.heap.size + 1) (by omega) (.string (tx r.1)) (.string (tx r.2))
    clear x3
    go_wp2_with fail
    change bodyPost _ _ _ _ _ (N.set2 _ (w.heap.size + 1) (.string (tx r.1)) (.string (tx r.2)))
    obtain ⟨hc0, hc1⟩ := cells_of hh
    generalize N.set2 _ (w.heap.size + 1) (.string (tx r.1)) (.string (tx r.2)) = W7 at *
    exact bodyPost_ret (v := .tuple #[.agg #[.string (tx r.1), .string (tx r.2)], .bool true]) (by simp [results, Tryz.results9, go_sem, hc0, hc1]) rfl ⟨rfl, XS⟩
def TwoP (W1 wx : World) (u1 u2 : Tr × Tr) (g h : Nat) (s1 s2 s3 s4 : Option Addr) : Prop :=
  wx.heap[g]? = some (.cells #[.pointer s1, .pointer s2] 57) ∧ wx.heap[h]? = some (.cells #[.pointer s3, .pointer s4] 57) ∧ Rep wx u1.1 s1 ∧ Rep wx u1.2 s2 ∧ Rep wx u2.1 s3 ∧ Rep wx u2.2 s4 ∧ Ext W1 wx
theorem TwoP.swap {W1 wx : World} {u1 u2 : Tr × Tr} {g h : Nat} {s1 s2 s3 s4 : Option Addr} (t : TwoP W1 wx u2 u1 h g s3 s4 s1 s2) : TwoP W1 wx u1 u2 g h s1 s2 s3 s4 :=
  let ⟨a, b, c, d, e, f, x⟩ := t; ⟨b, a, e, f, c, d, x⟩
theorem fin_a {W1 w5 : World} {u1 u2 : Tr × Tr} {s1 s2 s3 s4 : Option Addr} (r1 : Rep w5 u1.1 s1) (r2 : Rep w5 u1.2 s2) (r3 : Rep w5 u2.1 s3) (r4 : Rep w5 u2.2 s4) (x : Ext W1 w5) :
    TwoP W1 ((w5.alloc (.cells #[.pointer s1, .pointer s2] 57)).alloc (.cells #[.pointer s3, .pointer s4] 57)) u1 u2 w5.heap.size (w5.heap.size + 1) s1 s2 s3 s4 := by
  have xx := ((Ext.refl w5).alloc (.cells #[.pointer s1, .pointer s2] 57)).alloc (.cells #[.pointer s3, .pointer s4] 57)
  refine ⟨((Ext.refl _).alloc _).at (heap_alloc_new w5 _), ?_, r1.ext xx, r2.ext xx, r3.ext xx, r4.ext xx, x.trans xx⟩
  have b2 := heap_alloc_new (w5.alloc (.cells #[.pointer s1, .pointer s2] 57)) (.cells #[.pointer s3, .pointer s4] 57)
  rwa [show (w5.alloc (.cells #[.pointer s1, .pointer s2] 57)).heap.size = w5.heap.size + 1 from Array.size_push _] at b2
theorem fin_b {W1 w5 : World} {u1 u2 : Tr × Tr} {g : Nat} {s1 s2 s3 s4 : Option Addr} (T : Two w5 g 57) (hg : W1.heap.size ≤ g) (r1 : Rep w5 u1.1 s1) (r2 : Rep w5 u1.2 s2) (r3 : Rep w5 u2.1 s3) (r4 : Rep w5 u2.2 s4) (x : Ext W1 w5) :
    TwoP W1 ((N.set2 w5 g (.pointer s1) (.pointer s2)).alloc (.cells #[.pointer s3, .pointer s4] 57)) u1 u2 g w5.heap.size s1 s2 s3 s4 := by
  have hs : ∀ {Z : Tr} {y : Option Addr}, Rep w5 Z y → Rep (N.set2 w5 g (.pointer s1) (.pointer s2)) Z y := fun r => Rep.set2 T (by decide) _ _ r
  have hz : (N.set2 w5 g (.pointer s1) (.pointer s2)).heap.size = w5.heap.size := by simp [N.set2, World.setCell]
  have hh := set2_heap T (.pointer s1) (.pointer s2)
  have xs := x.set2 hg (.pointer s1) (.pointer s2)
  have q1 := hs r1
  have q2 := hs r2
  have q3 := hs r3
  have q4 := hs r4
  generalize N.set2 w5 g (.pointer s1) (.pointer s2) = V at *
  have xx := (Ext.refl V).alloc (.cells #[.pointer s3, .pointer s4] 57)
  exact ⟨xx.at hh, hz ▸ heap_alloc_new V _, q1.ext xx, q2.ext xx, q3.ext xx, q4.ext xx, xs.trans xx⟩
theorem fin_c {W1 w5 : World} {u1 u2 : Tr × Tr} {g h : Nat} {s1 s2 s3 s4 : Option Addr} (T : Two w5 g 57) (U : Two w5 h 57) (hg : W1.heap.size ≤ g) (hh : W1.heap.size ≤ h) (hn : g ≠ h) (r1 : Rep w5 u1.1 s1) (r2 : Rep w5 u1.2 s2) (r3 : Rep w5 u2.1 s3) (r4 : Rep w5 u2.2 s4) (x : Ext W1 w5) :
    TwoP W1 (N.set2 (N.set2 w5 g (.pointer s1) (.pointer s2)) h (.pointer s3) (.pointer s4)) u1 u2 g h s1 s2 s3 s4 := by
  have hs : ∀ {Z : Tr} {y : Option Addr}, Rep w5 Z y → Rep (N.set2 w5 g (.pointer s1) (.pointer s2)) Z y := fun r => Rep.set2 T (by decide) _ _ r
  have hT := set2_heap T (.pointer s1) (.pointer s2)
  have U' : Two (N.set2 w5 g (.pointer s1) (.pointer s2)) h 57 := ⟨let ⟨u, v, e⟩ := U.at_; ⟨u, v, (set2_other hn.symm _ _).trans e⟩⟩
  have ht : ∀ {Z : Tr} {y : Option Addr}, Rep (N.set2 w5 g (.pointer s1) (.pointer s2)) Z y → Rep (N.set2 (N.set2 w5 g (.pointer s1) (.pointer s2)) h (.pointer s3) (.pointer s4)) Z y := fun r => Rep.set2 U' (by decide) _ _ r
  exact ⟨(set2_other hn _ _).trans hT, set2_heap U' _ _, ht (hs r1), ht (hs r2), ht (hs r3), ht (hs r4), (x.set2 hg _ _).set2 hh _ _⟩
theorem fin_b' {W1 w5 : World} {u1 u2 : Tr × Tr} {g : Nat} {s1 s2 s3 s4 : Option Addr} (T : Two w5 g 57) (hg : W1.heap.size ≤ g) (r1 : Rep w5 u1.1 s1) (r2 : Rep w5 u1.2 s2) (r3 : Rep w5 u2.1 s3) (r4 : Rep w5 u2.2 s4) (x : Ext W1 w5) :
    TwoP W1 (((w5.setCell ⟨g, 0, none⟩ (.pointer s1)).setCell ⟨g, 1, none⟩ (.pointer s2)).alloc (.cells #[.pointer s3, .pointer s4] 57)) u1 u2 g w5.heap.size s1 s2 s3 s4 := fin_b T hg r1 r2 r3 r4 x
theorem fin_c' {W1 w5 : World} {u1 u2 : Tr × Tr} {g h : Nat} {s1 s2 s3 s4 : Option Addr} (T : Two w5 g 57) (U : Two w5 h 57) (hg : W1.heap.size ≤ g) (hh : W1.heap.size ≤ h) (hn : g ≠ h) (r1 : Rep w5 u1.1 s1) (r2 : Rep w5 u1.2 s2) (r3 : Rep w5 u2.1 s3) (r4 : Rep w5 u2.2 s4) (x : Ext W1 w5) :
    TwoP W1 ((((w5.setCell ⟨g, 0, none⟩ (.pointer s1)).setCell ⟨g, 1, none⟩ (.pointer s2)).setCell ⟨h, 0, none⟩ (.pointer s3)).setCell ⟨h, 1, none⟩ (.pointer s4)) u1 u2 g h s1 s2 s3 s4 := fin_c T U hg hh hn r1 r2 r3 r4 x
set_option maxHeartbeats 12800000 in
set_option maxRecDepth 100000 in
theorem DoCommute_yes (A B C D : Tr) (hc : A.carets = B.carets) (hB : B.carets ≤ 8) (hd : C.carets = D.carets) (hD : D.carets ≤ 8) (w : World) :
    Calls Tryz.prog 16 #[.agg #[.string (tx A), .string (tx B)], .agg #[.string (tx C), .string (tx D)]] w fun e w' => e = .returned (.tuple #[.bool (if (mul (A, B) (C, D)).1.carets ≤ 8 ∧ (mul (C, D) (A, B)).1.carets ≤ 8 then (comm (A, B) (C, D), true) else (false, false)).1, .bool (if (mul (A, B) (C, D)).1.carets ≤ 8 ∧ (mul (C, D) (A, B)).1.carets ≤ 8 then (comm (A, B) (C, D), true) else (false, false)).2]) ∧ Ext w w' := by
  have X0 := Lib.hid (((Ext.refl w).alloc (.cells #[.string (tx A), .string (tx B)] 25)).alloc (.cells #[.string (tx C), .string (tx D)] 25))
  have C1 := Lib.hid (two_yes A B C D hc hB hd hD)
  have m1 := mul_carets (p := (A, B)) (q := (C, D)) hc hd
  have m2 := mul_carets (p := (C, D)) (q := (A, B)) hd hc
  have T1 := Lib.hid (fun pa pb pc pd W ra rb rc rd => times_calls A B C D hc hd (by omega) (by omega) pa pb pc pd W ra rb rc rd)
  have T2 := Lib.hid (fun pa pb pc pd W ra rb rc rd => times_calls C D A B hd hc (by omega) (by omega) pc pd pa pb W rc rd ra rb)
  have L1 : (mul (A, B) (C, D)).1.carets < 1000000 ∧ (mul (A, B) (C, D)).2.carets < 1000000 := by simp only at m1; omega
  have L2 : (mul (C, D) (A, B)).1.carets < 1000000 ∧ (mul (C, D) (A, B)).2.carets < 1000000 := by simp only at m2; omega
  have HC : Hid (comm (A, B) (C, D) = decide (ptx (mul (A, B) (C, D)) = ptx (mul (C, D) (A, B)))) := rfl
  rw [HC.out]
  generalize mul (A, B) (C, D) = u1 at *
  generalize mul (C, D) (A, B) = u2 at *
  have P1 := Lib.hid (fun ya yb W ha hb => ptext_calls u1.1 u1.2 L1.1 L1.2 ya yb W ha hb)
  have P2 := Lib.hid (fun ya yb W ha hb => ptext_calls u2.1 u2.2 L2.1 L2.2 ya yb W ha hb)
  have K1 := Lib.hid (fun y W h => carets_calls u1.1 y W (by omega) h)
  have K2 := Lib.hid (fun y W h => carets_calls u2.1 y W (by omega) h)
  clear m1 m2 HC L1 L2
  go_enter Tryz.func16, Tryz.ntmps16
  go_wp2_with fail
  generalize (w.alloc (.cells #[.string (tx A), .string (tx B)] 25)).alloc (.cells #[.string (tx C), .string (tx D)] 25) = W at *
  refine (C1.out _).mono ?_
  rintro e w1 ⟨pa, pb, pc, pd, rfl, rA, rB, rC, rD, x1⟩
  have xx := ((Ext.refl w1).alloc (.cells #[.pointer pa, .pointer pb] 57)).alloc (.cells #[.pointer pc, .pointer pd] 57)
  obtain ⟨c0, c1⟩ := cells_of (((Ext.refl (w1.alloc (.cells #[.pointer pa, .pointer pb] 57))).alloc (.cells #[.pointer pc, .pointer pd] 57)).at (heap_alloc_new w1 (.cells #[.pointer pa, .pointer pb] 57)))
  have b2 := heap_alloc_new (w1.alloc (.cells #[.pointer pa, .pointer pb] 57)) (.cells #[.pointer pc, .pointer pd] 57)
  rw [show (w1.alloc (.cells #[.pointer pa, .pointer pb] 57)).heap.size = w1.heap.size + 1 from Array.size_push _] at b2
  obtain ⟨c2, c3⟩ := cells_of b2
  have X1 := Lib.hid (X0.out.trans (x1.trans xx))
  have RA := Lib.hid (rA.ext xx)
  have RB := Lib.hid (rB.ext xx)
  have RC := Lib.hid (rC.ext xx)
  have RD := Lib.hid (rD.ext xx)
  clear rA rB rC rD x1 xx b2
  go_wp2_with fail
  generalize (w1.alloc (.cells #[.pointer pa, .pointer pb] 57)).alloc (.cells #[.pointer pc, .pointer pd] 57) = W1 at *
  have T1 := Lib.hid (fun W (h : Ext W1 W) => T1.out pa pb pc pd W (RA.out.ext h) (RB.out.ext h) (RC.out.ext h) (RD.out.ext h))
  have T2 := Lib.hid (fun W (h : Ext W1 W) => T2.out pa pb pc pd W (RA.out.ext h) (RB.out.ext h) (RC.out.ext h) (RD.out.ext h))
  have KX : ∀ w', Ext W1 w' → w'.cell? ⟨w1.heap.size, 0, none⟩ = some (.pointer pa) ∧ w'.cell? ⟨w1.heap.size, 1, none⟩ = some (.pointer pb) ∧ w'.cell? ⟨w1.heap.size + 1, 0, none⟩ = some (.pointer pc) ∧ w'.cell? ⟨w1.heap.size + 1, 1, none⟩ = some (.pointer pd) := fun w' h => ⟨h.cell c0, h.cell c1, h.cell c2, h.cell c3⟩
  have N1 : ∀ W', Ext (W1.alloc (.cells #[.pointer none, .pointer none] 57)).drew W' → Two W' W1.heap.size 57 := fun W' h => (Two.new W1 (.pointer none) (.pointer none) 57 rfl).ext ((Ext.refl _).drew.trans h)
  have N1' : ∀ W', Ext (W1.drew.alloc (.cells #[.pointer none, .pointer none] 57)) W' → Two W' W1.heap.size 57 := fun W' h => (Two.new W1.drew (.pointer none) (.pointer none) 57 rfl).ext h
  have NN : ∀ (V : World) W', Ext ((V.alloc (.cells #[.pointer none, .pointer none] 57)).alloc (.cells #[.pointer none, .pointer none] 57)) W' → Two W' V.heap.size 57 ∧ Two W' (V.heap.size + 1) 57 := fun V W' h => ⟨(Two.new V (.pointer none) (.pointer none) 57 rfl).ext (((Ext.refl _).alloc _).trans h), (Two.new (V.alloc (.cells #[.pointer none, .pointer none] 57)) (.pointer none) (.pointer none) 57 (Array.size_push _)).ext h⟩
  have N2 : ∀ W', Ext ((W1.alloc (.cells #[.pointer none, .pointer none] 57)).alloc (.cells #[.pointer none, .pointer none] 57)).drew W' → Two W' W1.heap.size 57 ∧ Two W' (W1.heap.size + 1) 57 := fun W' h => NN W1 W' ((Ext.refl _).drew.trans h)
  have N2' : ∀ W', Ext ((W1.drew.alloc (.cells #[.pointer none, .pointer none] 57)).alloc (.cells #[.pointer none, .pointer none] 57)) W' → Two W' W1.heap.size 57 ∧ Two W' (W1.heap.size + 1) 57 := fun W' h => NN W1.drew W' h
  have N2'' : ∀ W', Ext ((W1.alloc (.cells #[.pointer none, .pointer none] 57)).drew.alloc (.cells #[.pointer none, .pointer none] 57)) W' → Two W' W1.heap.size 57 ∧ Two W' (W1.heap.size + 1) 57 := fun W' h => ⟨(Two.new W1 (.pointer none) (.pointer none) 57 rfl).ext (((Ext.refl _).drew.alloc _).trans h), (Two.new (W1.alloc (.cells #[.pointer none, .pointer none] 57)).drew (.pointer none) (.pointer none) 57 (Array.size_push _)).ext h⟩
  have N3 : ∀ (V : World) W', Ext (V.alloc (.cells #[.pointer none, .pointer none] 57)) W' → Two W' V.heap.size 57 := fun V W' h => (Two.new V (.pointer none) (.pointer none) 57 rfl).ext h
  go_cut [9, 10] from 20 to 25 (fun a d wx => ∃ g h s1 s2 s3 s4, a = .pointer (some ⟨g, 0, none⟩) ∧ d = .pointer (some ⟨h, 0, none⟩) ∧ TwoP W1 wx u1 u2 g h s1 s2 s3 s4)
  case first =>
    go_region_held3 (fun w' => w'.cell? ⟨w1.heap.size, 0, none⟩ = some (.pointer pa) ∧ w'.cell? ⟨w1.heap.size, 1, none⟩ = some (.pointer pb) ∧ w'.cell? ⟨w1.heap.size + 1, 0, none⟩ = some (.pointer pc) ∧ w'.cell? ⟨w1.heap.size + 1, 1, none⟩ = some (.pointer pd))
      ((refine KX _ ?_; repeat' (first | with_reducible exact x5 | with_reducible exact x3 | with_reducible exact Ext.refl _ | with_reducible refine Ext.alloc ?_ _ | with_reducible refine Ext.drew ?_ | with_reducible refine Ext.setCell ?_ ?_ _ | (change W1.heap.size ≤ _; first | omega | (dsimp only; omega)))))
      (first
        | (go_at_call 34; (with_reducible refine (T1.out _ (by first | exact (Ext.refl _).drew | exact ((Ext.refl _).alloc _).drew | exact ((Ext.refl _).drew.alloc _) | exact (((Ext.refl _).alloc _).alloc _).drew | exact (((Ext.refl _).drew.alloc _).alloc _) | exact (((Ext.refl _).alloc _).drew.alloc _) | fail)).mono ?_); rintro e w3 ⟨s1, s2, rfl, hr1, hr2, hx3⟩; have z0 := hx3.size; have x3 : Ext W1 w3 := Ext.trans (by first | exact (Ext.refl _).drew | exact ((Ext.refl _).alloc _).drew | exact ((Ext.refl _).drew.alloc _) | exact (((Ext.refl _).alloc _).alloc _).drew | exact (((Ext.refl _).drew.alloc _).alloc _) | exact (((Ext.refl _).alloc _).drew.alloc _) | fail) hx3; have z3 : W1.heap.size ≤ w3.heap.size := x3.size; (first | (with_reducible have TT := N2 _ hx3; have TA := TT.1; have TB := TT.2) | (with_reducible have TT := N2' _ hx3; have TA := TT.1; have TB := TT.2) | (with_reducible have TT := N2'' _ hx3; have TA := TT.1; have TB := TT.2) | (with_reducible have TA := N1 _ hx3) | (with_reducible have TA := N1' _ hx3) | skip))
        | (go_at_call 34; (with_reducible refine (T2.out _ (by first | exact x3 | exact x3.alloc _ | exact (x3.alloc _).alloc _ | fail)).mono ?_); rintro e w5 ⟨s3, s4, rfl, hr3, hr4, hx5⟩; have x5 : Ext W1 w5 := Ext.trans (by first | exact x3 | exact x3.alloc _ | exact (x3.alloc _).alloc _ | fail) hx5; have z5 : W1.heap.size ≤ w5.heap.size := x5.size; have y5 : Ext w3 w5 := Ext.trans (by first | exact (Ext.refl _) | exact (Ext.refl _).alloc _ | exact ((Ext.refl _).alloc _).alloc _ | fail) hx5;
            (first | (have TC := (NN w3 _ hx5).1; have TD := (NN w3 _ hx5).2; obtain ⟨uc, vc, kc0, kc1, fc0, fc1⟩ := TC.facts; obtain ⟨ud, vd, kd0, kd1, fd0, fd1⟩ := TD.facts; have ld5 : w3.heap.size < w5.heap.size := TC.lt; have ld6 : w3.heap.size + 1 < w5.heap.size := TD.lt) | (have TC := N3 w3 _ hx5; obtain ⟨uc, vc, kc0, kc1, fc0, fc1⟩ := TC.facts; have hc5 : w5.heap.size ≠ w3.heap.size := Nat.ne_of_gt TC.lt; have hc6 := hc5.symm; have lc5 : w3.heap.size < w5.heap.size := TC.lt) | skip);
            (first | (have TB5 := TB.ext y5; obtain ⟨ub, vb, kb0, kb1, fb0, fb1⟩ := TB5.facts; have lb5 : W1.heap.size + 1 < w5.heap.size := TB5.lt) | skip);
            (first | (have TA5 := TA.ext y5; obtain ⟨ua, va, ka0, ka1, fa0, fa1⟩ := TA5.facts; have ha3 : w3.heap.size ≠ W1.heap.size := Nat.ne_of_gt TA.lt; have ha4 := ha3.symm; have ha5 : w5.heap.size ≠ W1.heap.size := Nat.ne_of_gt TA5.lt; have ha6 := ha5.symm; have la3 : W1.heap.size < w3.heap.size := TA.lt; have la5 : W1.heap.size < w5.heap.size := TA5.lt) | skip))
        | fail)
    all_goals
      have q1 := hr1.ext y5
      have q2 := hr2.ext y5
      go_wp2_with fail
      go_meet
      refine ⟨_, _, s1, s2, s3, s4, rfl, rfl, ?_⟩
      first
        | with_reducible exact fin_a q1 q2 hr3 hr4 x5
        | with_reducible exact TwoP.swap (fin_a hr3 hr4 q1 q2 x5)
        | with_reducible exact fin_b' TC z3 q1 q2 hr3 hr4 x5
        | with_reducible exact fin_b' TA5 (Nat.le_refl _) q1 q2 hr3 hr4 x5
        | with_reducible exact TwoP.swap (fin_b' TC z3 hr3 hr4 q1 q2 x5)
        | with_reducible exact TwoP.swap (fin_b' TA5 (Nat.le_refl _) hr3 hr4 q1 q2 x5)
        | with_reducible exact fin_c' TC TD z3 (Nat.le_succ_of_le z3) (by first | omega | exact Nat.ne_of_lt la3 | exact (Nat.ne_of_lt la3).symm) q1 q2 hr3 hr4 x5
        | with_reducible exact fin_c' TD TC (Nat.le_succ_of_le z3) z3 (by first | omega | exact Nat.ne_of_lt la3 | exact (Nat.ne_of_lt la3).symm) q1 q2 hr3 hr4 x5
        | with_reducible exact fin_c' TA5 TC (Nat.le_refl _) z3 (by first | omega | exact Nat.ne_of_lt la3 | exact (Nat.ne_of_lt la3).symm) q1 q2 hr3 hr4 x5
        | with_reducible exact fin_c' TC TA5 z3 (Nat.le_refl _) (by first | omega | exact Nat.ne_of_lt la3 | exact (Nat.ne_of_lt la3).symm) q1 q2 hr3 hr4 x5
        | with_reducible exact fin_c' TA5 TB5 (Nat.le_refl _) (Nat.le_succ _) (by first | omega | exact Nat.ne_of_lt la3 | exact (Nat.ne_of_lt la3).symm) q1 q2 hr3 hr4 x5
        | with_reducible exact fin_c' TB5 TA5 (Nat.le_succ _) (Nat.le_refl _) (by first | omega | exact Nat.ne_of_lt la3 | exact (Nat.ne_of_lt la3).symm) q1 q2 hr3 hr4 x5
  case rest =>
    obtain ⟨g, h, s1, s2, s3, s4, rfl, rfl, hh1, hh2, R1, R2, R3, R4, X6⟩ := hcut
    have X6 := Lib.hid (X1.out.trans X6)
    have HH1 := Lib.hid hh1
    have HH2 := Lib.hid hh2
    have R1 := Lib.hid R1
    have R2 := Lib.hid R2
    have R3 := Lib.hid R3
    have R4 := Lib.hid R4
    clear KX N1 N1' NN N2 N2' N2'' N3 T1 T2 RA RB RC RD X1 X0 C1
    generalize wc = w6 at *
    obtain ⟨c0, c1⟩ := cells_of hh1
    clear hh1 hh2
    go_wp2_with fail
    refine (K1.out s1 w6 R1.out).mono ?_
    rintro e w7 ⟨rfl, n7, rfl⟩
    have XD := (Ext.refl w6).drewN n7
    generalize w6.drewN n7 = w7 at *
    obtain ⟨y0, y1⟩ := cells_of (XD.at HH1.out)
    obtain ⟨y2, y3⟩ := cells_of (XD.at HH2.out)
    have X7 := Lib.hid (X6.out.trans XD)
    have H1 := Lib.hid (XD.at HH1.out)
    have H2 := Lib.hid (XD.at HH2.out)
    have Q1 := Lib.hid (R1.out.ext XD)
    have Q2 := Lib.hid (R2.out.ext XD)
    have Q3 := Lib.hid (R3.out.ext XD)
    have Q4 := Lib.hid (R4.out.ext XD)
    clear R1 R2 R3 R4 XD X6 HH1 HH2
    by_cases h8 : u1.1.carets ≤ 8
    · have t8 : ¬ ((8 : Int) < u1.1.carets) := by omega
      go_wp2_with fail
      refine (K2.out s3 w7 Q3.out).mono ?_
      rintro e w8 ⟨rfl, n8, rfl⟩
      have XD := (Ext.refl w7).drewN n8
      generalize w7.drewN n8 = w8 at *
      obtain ⟨z0, z1⟩ := cells_of (XD.at H1.out)
      obtain ⟨z2, z3⟩ := cells_of (XD.at H2.out)
      have X8 := X7.out.trans XD
      have Q1 := Lib.hid (Q1.out.ext XD)
      have Q2 := Lib.hid (Q2.out.ext XD)
      have Q3 := Lib.hid (Q3.out.ext XD)
      have Q4 := Lib.hid (Q4.out.ext XD)
      clear XD X7 H1 H2 y0 y1 y2 y3
      by_cases h9 : u2.1.carets ≤ 8
      · have t9 : ¬ ((8 : Int) < u2.1.carets) := by omega
        have KX : ∀ w', Ext w8 w' → w'.cell? ⟨g, 0, none⟩ = some (.pointer s1) ∧ w'.cell? ⟨g, 1, none⟩ = some (.pointer s2) ∧ w'.cell? ⟨h, 0, none⟩ = some (.pointer s3) ∧ w'.cell? ⟨h, 1, none⟩ = some (.pointer s4) := fun w' hx => ⟨hx.cell z0, hx.cell z1, hx.cell z2, hx.cell z3⟩
        have p1 : ptx (u1.1, u1.2) = ptx u1 := rfl
        have p2 : ptx (u2.1, u2.2) = ptx u2 := rfl
        rw [p1] at P1
        rw [p2] at P2
        clear p1 p2
        go_wp2_with fail
        go_region_held3 (fun w' => w'.cell? ⟨g, 0, none⟩ = some (.pointer s1) ∧ w'.cell? ⟨g, 1, none⟩ = some (.pointer s2) ∧ w'.cell? ⟨h, 0, none⟩ = some (.pointer s3) ∧ w'.cell? ⟨h, 1, none⟩ = some (.pointer s4))
          (first | with_reducible exact KX _ (Ext.refl _).drew | with_reducible exact KX _ x4 | with_reducible exact KX _ x6 | fail)
          (first
            | (go_at_call 32; (with_reducible refine (P1.out _ _ _ (Q1.out.ext (Ext.refl _).drew) (Q2.out.ext (Ext.refl _).drew)).mono ?_); rintro e w4 ⟨rfl, hx4⟩; have x4 := (Ext.refl w8).drew.trans hx4)
            | (go_at_call 32; (with_reducible refine (P2.out _ _ _ (Q3.out.ext x4) (Q4.out.ext x4)).mono ?_); rintro e w6 ⟨rfl, hx6⟩; have x6 := x4.trans hx6)
            | fail)
        all_goals
          have XW := X8.trans x6
          have zz : ((ptx u1).toList == (ptx u2).toList) = decide (ptx u1 = ptx u2) := by
            by_cases hz : ptx u1 = ptx u2
            · rw [hz]; simp
            · rw [decide_eq_false hz]
              cases h : ((ptx u1).toList == (ptx u2).toList) with
              | false => rfl
              | true => exact absurd (ba_ext (eq_of_beq h)) hz
          go_wp2_with fail
          go_ret2
          exact ⟨by simp [h8, h9, zz], XW⟩
      · have t9 : (8 : Int) < u2.1.carets := by omega
        go_wp2_with fail
        go_ret2
        exact ⟨by simp [h8, h9], X8⟩
    · have t8 : (8 : Int) < u1.1.carets := by omega
      have X8 := X7.out
      go_wp2_with fail
      go_ret2
      exact ⟨by simp [h8], X8⟩
end Go.Proofs.YtdcipaaclpedhaaGreat.N
namespace Go.Proofs.YtdcipaaclpedhaaGreat.N
def smallN : List TP := (List.range 4).flatMap fun n => redA (TL n) (TL n)
def txP (p : TP) : List UInt8 × List UInt8 := (p.1.txt, p.2.txt)
theorem txP_inj {p q : TP} (h : txP p = txP q) : p = q := by
  obtain ⟨a, b⟩ := p
  obtain ⟨c, d⟩ := q
  simp only [txP, Prod.mk.injEq] at h
  have h1 : a = c := tx_inj (congrArg S h.1)
  have h2 : b = d := tx_inj (congrArg S h.2)
  rw [h1, h2]
theorem roots_all : ∀ k ∈ [2, 3, 4], ∀ p ∈ smallN, ∀ q ∈ smallN, txP (powT p k) = txP (powT q k) → txP p = txP q := by decide +kernel
theorem prs_nodup (n : Nat) : (prs n).Nodup := (srtP_perm _).nodup_iff.2 (redA_nodup (TL_nodup n) (TL_nodup n))
theorem smallP_nodup (n : Nat) : (smallP n).Nodup := by
  unfold smallP List.Nodup
  rw [List.pairwise_flatMap]
  refine ⟨fun i _ => prs_nodup i, ?_⟩
  refine List.pairwise_lt_range.imp ?_
  intro i j hij x hx y hy e
  subst e
  have h1 := (prs_mem hx).1
  have h2 := (prs_mem hy).1
  omega
theorem smallP_small {p : TP} (h : p ∈ smallP 3) : p ∈ smallN := by
  obtain ⟨k, hk, hp⟩ := List.mem_flatMap.1 h
  exact List.mem_flatMap.2 ⟨k, hk, (srtP_perm _).mem_iff.1 hp⟩
theorem nodup_one {α : Type} : ∀ {l : List α}, l.Nodup → (∀ a ∈ l, ∀ b ∈ l, a = b) → l.length ≤ 1
  | [], _, _ => Nat.zero_le _
  | [a], _, _ => Nat.le_refl _
  | a :: b :: l, hn, h => by
    have := h a List.mem_cons_self b (List.mem_cons_of_mem _ List.mem_cons_self)
    subst this
    simp at hn
theorem one_root (p : TP) (k : Nat) (h2 : 2 ≤ k) (h4 : k ≤ 4) : ((smallP 3).filter (rootB p k)).length ≤ 1 := by
  refine nodup_one ((smallP_nodup 3).sublist List.filter_sublist) (fun a ha b hb => ?_)
  obtain ⟨ha1, ha2⟩ := List.mem_filter.1 ha
  obtain ⟨hb1, hb2⟩ := List.mem_filter.1 hb
  have e : ptx (powT a k) = ptx (powT b k) := (of_decide_eq_true ha2).trans (of_decide_eq_true hb2).symm
  have e := ptx_inj e
  have hk : k ∈ [2, 3, 4] := by
    rcases (by omega : k = 2 ∨ k = 3 ∨ k = 4) with rfl | rfl | rfl <;> simp
  exact txP_inj (roots_all k hk a (smallP_small ha1) b (smallP_small hb1) (by rw [e]))
theorem root_pow {p q : TP} {k : Nat} (h : rootB p k q = true) : powT q k = red p := ptx_inj (of_decide_eq_true h)
theorem powT_bal {q : TP} (hq : Bal q) : ∀ k, Bal (powT q k)
  | 0 => rfl
  | k + 1 => (powT_bal hq k).mul hq
theorem powT_comm {q : TP} (hq : Bal q) : ∀ k, mul (powT q k) q = mul q (powT q k)
  | 0 => mul_ext Bal.one hq hq Bal.one (fun s => by rw [show ∀ u, act (powT q 0) u = u from fun u => act_one u]; exact (act_one _).symm)
  | k + 1 => by
    show mul (mul (powT q k) q) q = mul q (mul (powT q k) q)
    rw [powT_comm hq k, mul_assoc hq (powT_bal hq k) hq, powT_comm hq k]
theorem root_comm {p q : TP} {k : Nat} (hp : Bal p) (hq : Bal q) (h : rootB p k q = true) : mul p q = mul q p := by
  rw [← mul_red_l hp hq, ← mul_red_r hq hp, ← root_pow h]
  exact powT_comm hq k
theorem comm_one {p : TP} (hp : Bal p) : comm p one = true := decide_eq_true (by rw [mul_one hp, one_mul hp])
theorem one_small (n : Nat) : one ∈ smallP n := by
  refine List.mem_flatMap.2 ⟨0, List.mem_range.2 (by omega), (srtP_perm _).mem_iff.2 ?_⟩
  show one ∈ redA (TL 0) (TL 0)
  rw [TL_zero]
  exact List.mem_flatMap.2 ⟨.leaf, List.mem_singleton.2 rfl, List.mem_map.2 ⟨.leaf, List.mem_filter.2 ⟨List.mem_singleton.2 rfl, rfl⟩, rfl⟩⟩
theorem smallP_rise (n : Nat) : (smallP n).Pairwise fun a b => a.1.carets ≤ b.1.carets := by
  unfold smallP
  rw [List.pairwise_flatMap]
  refine ⟨fun i _ => ?_, ?_⟩
  · refine List.Pairwise.imp_of_mem (R := fun _ _ => True) ?_ (List.pairwise_of_forall fun _ _ => trivial)
    intro a b ha hb _
    rw [(prs_mem ha).1, (prs_mem hb).1]; exact Nat.le_refl _
  · refine List.pairwise_lt_range.imp ?_
    intro i j hij x hx y hy
    rw [(prs_mem hx).1, (prs_mem hy).1]; omega
end Go.Proofs.YtdcipaaclpedhaaGreat.N
