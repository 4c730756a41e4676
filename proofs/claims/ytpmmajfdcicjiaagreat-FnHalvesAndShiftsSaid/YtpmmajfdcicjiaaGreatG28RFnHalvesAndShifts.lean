import Derived.Test.YtpmmajfdcicjiaaGreatG1RFnHalvesAndShifts
import Derived.Test.YtpmmajfdcicjiaaGreatG2RFnHalvesAndShifts
import Derived.Test.YtpmmajfdcicjiaaGreatProg
import Derived.Test.YtpmmajfdcicjiaaGreatG18RFnHalvesAndShifts
import Derived.Test.YtpmmajfdcicjiaaGreatG5RFnHalvesAndShifts
import Derived.Test.YtpmmajfdcicjiaaGreatG3RFnHalvesAndShifts
import Derived.Test.YtpmmajfdcicjiaaGreatG12RFnHalvesAndShifts
import Derived.Test.YtpmmajfdcicjiaaGreatG16RFnHalvesAndShifts
import Derived.Test.YtpmmajfdcicjiaaGreatG7RFnHalvesAndShifts
import Derived.Test.YtpmmajfdcicjiaaGreatG17RFnHalvesAndShifts
import Derived.Test.YtpmmajfdcicjiaaGreatG27RFnHalvesAndShifts
import Derived.Deep.LoopGhost
import Derived.Deep.RegionHeld3
import Derived.Deep.QuietTactic
/- Rows of the call's own, rows kept while another one grows, texts of trees. -/
namespace Go.Proofs.YtpmmajfdcicjiaaGreat.N
open Go.RowKit
set_option linter.unusedVariables false
set_option linter.unusedSimpArgs false

theorem row_form {w : World} {base : Nat} {e : TypeId} {sz : Nat} {v : Value} {n : Nat} {xs : List Value} (h : w.ownsRow base e sz v n xs) : ∃ A c, v = .slice A n c := by
  rcases h.2 with ⟨rfl, h0⟩ | ⟨g, cap, cur, rfl, _⟩
  · exact ⟨none, 0, by rw [h0]⟩
  · exact ⟨_, cap, rfl⟩
theorem row_block {w : World} {base : Nat} {e : TypeId} {sz : Nat} {v : Value} {n : Nat} {xs : List Value} (h : w.ownsRow base e sz v n xs) (hn : 0 < n) : ∃ g c, v = .slice (some ⟨g, 0, none⟩) n c ∧ base ≤ g := by
  rcases h.2 with ⟨rfl, h0⟩ | ⟨g, cap, cur, rfl, hb, _⟩
  · omega
  · exact ⟨g, cap, rfl, hb⟩
theorem row_cell {w : World} {base : Nat} {e : TypeId} {sz n g c : Nat} {xs : List Value} (h : w.ownsRow base e sz (.slice (some ⟨g, 0, none⟩) n c) n xs) (j : Nat) (hj : j < n * sz) : ∃ u, w.cell? ⟨g, j, none⟩ = some u := by
  have hl : j < xs.length := by rw [h.1]; exact hj
  exact ⟨xs[j], by rw [← add_plain]; exact h.cells rfl j _ (List.getElem?_eq_getElem hl)⟩
/-- v reads as xs, and lies apart from the slice o. -/
def Kp (w : World) (o v : Value) (xs : List Value) : Prop := Reads w v xs ∧ (∀ k, o.ownBlock = some k → v.ownBlock ≠ some k) ∧ ∀ k, v.ownBlock = some k → k < w.heap.size
theorem Kp.ext {w w' : World} {o v : Value} {xs : List Value} (h : Kp w o v xs) (hx : Ext w w') : Kp w' o v xs := ⟨h.1.ext hx, h.2.1, fun k hk => Nat.lt_of_lt_of_le (h.2.2 k hk) hx.size⟩
theorem Kp.grown {w w' : World} {o o' v : Value} {xs : List Value} (h : Kp w o v xs) (hg : w.grownBy w' o.ownBlock) (hq : o'.ownBlock = o.ownBlock ∨ o'.ownBlock = some w.heap.size) : Kp w' o' v xs := by
  refine ⟨h.1.far hg h.2.1, fun k hk hv => ?_, fun k hk => Nat.lt_of_lt_of_le (h.2.2 k hk) hg.size⟩
  rcases hq with q | q
  · exact h.2.1 k (q.symm.trans hk) hv
  · have := h.2.2 k hv
    rw [hk] at q
    injection q with q
    omega
theorem Kp.fresh {w0 w : World} {b : Nat} {e e' : TypeId} {o v : Value} {ys xs : List Value} (ho : Own w0 b e o ys) (hv : Own w w0.heap.size e' v xs) : Kp w o v xs :=
  ⟨hv.reads, fun k hk hv' => by have := (ho.block k hk).2; have := (hv.block k hv').1; omega, fun k hk => (hv.block k hk).2⟩
def txs (l : List Tr) : List Value := strs (l.map tx)
theorem txs_length (l : List Tr) : (txs l).length = l.length := by simp [txs, strs]
theorem txs_append (a b : List Tr) : txs a ++ txs b = txs (a ++ b) := by simp [txs, strs]
theorem txs_get {l : List Tr} {k : Nat} {T : Tr} (h : l[k]? = some T) : (txs l)[k]? = some (.string (tx T)) := by simp [txs, strs, h]
theorem txs_one (l : List Tr) : ∀ u ∈ txs l, u.oneCell' = true := strs_one _
theorem Own.txs {w : World} {base : Nat} {v : Value} {l : List Tr} (h : Own w base 9 v (txs l)) : ∃ A c, v = .slice A l.length c := by
  obtain ⟨A, c, rfl, _, _⟩ := h.reads
  exact ⟨A, c, by rw [txs_length]⟩
theorem Reads.txs_cell {w : World} {A : Option Addr} {n c : Nat} {l : List Tr} (h : Reads w (.slice A n c) (txs l)) {k : Nat} {T : Tr} (hk : l[k]? = some T) : ∃ ad, A = some ad ∧ w.cell? (ad.add k) = some (.string (tx T)) := by
  obtain ⟨B, d, e, _, hr⟩ := h
  injection e with e1 e2 e3
  subst e1
  obtain ⟨ad, rfl, hc⟩ := hr (by rw [txs_length]; exact Nat.lt_of_le_of_lt (Nat.zero_le _) (List.getElem?_eq_some_iff.1 hk).1)
  exact ⟨ad, rfl, hc k _ (txs_get hk)⟩
theorem lit_readsS (W : World) (s : ByteArray) : Reads (W.alloc (.cells #[.string s] 9)) (.slice (some ⟨W.heap.size, 0, none⟩) 1 1) (strs [s]) := (Own.lit W 0 9 #[.string s] (Nat.zero_le _) (by show 1 ≤ maxLen; decide)).reads
section
variable {P : Program}
/-- append(v, s...) on a row of the call's own, elements of several cells. -/
theorem wp_appK {w : World} {o : Oper} {a : Act} {K : Act → World → Prop} {Q : Exit → Act → World → Prop} (x y : Operand) (t : TypeId)
    (ho : o.op = .call { callee := .builtin .append, args := #[x, y], argTypes := #[t, t] })
    (base : Nat) (e : TypeId) (z : Value) (size bytes : Nat) (ht : P.underlying t = some (.slice e)) (hinfo : (P.info? e).map (fun i => (i.zero, i.size, i.bytes)) = some (some z, size, bytes)) (hz : z.cells.size = size) (hs0 : 0 < size)
    (v : Value) (n m c : Nat) (ad : Addr) (xs news : List Value) (hx : a.eval x = v) (hy : a.eval y = .slice (some ad) m c) (hown : w.ownsRow base e size v n xs) (hl : news.length = m * size) (hnews : ∀ j u, news[j]? = some u → w.cell? (ad.add j) = some u) (h1 : ∀ u ∈ news, u.oneCell' = true)
    (h63 : n + m ≤ maxLen) (hbytes : (n + m) * bytes ≤ 140737488355328) (hbase : base ≤ w.heap.size)
    (h : ∀ v' w', w'.ownsRow base e size v' (n + m) (xs ++ news) → w.grownBy w' v.ownBlock → (v'.ownBlock = v.ownBlock ∨ v'.ownBlock = some w.heap.size) → K (a.put o.dst v') w') : o.wp P a w K Q := by
  obtain ⟨i, hi, hzz⟩ := Option.map_eq_some_iff.1 hinfo
  simp only [Prod.mk.injEq] at hzz
  obtain ⟨hz0, hz1, hz2⟩ := hzz
  obtain ⟨v', w', hr, h2, h3, _, h5⟩ := run_append_own_at (P := P) w base t o.type e i z size bytes ht hi hz0 hz1 hz2 hz hs0 v n xs hown ad m c news hl hnews h1 h63 hbytes hbase
  unfold Oper.wp execOp
  simp only [ho, resolve, invoke, builtin, Sem.run_bind, Sem.run_pure, Result.andThen_ok, List.map_toArray, List.map_cons, List.map_nil, hx, hy, hr]
  exact h v' w' h2 h3 h5
theorem wpList_appK {w : World} {ops : Array Oper} {rest : List Oper} {o : Oper} {a : Act} {Q : Exit → Act → World → Prop} (hgd : o.guard = none) (x y : Operand) (t : TypeId)
    (ho : o.op = .call { callee := .builtin .append, args := #[x, y], argTypes := #[t, t] })
    (base : Nat) (e : TypeId) (z : Value) (size bytes : Nat) (ht : P.underlying t = some (.slice e)) (hinfo : (P.info? e).map (fun i => (i.zero, i.size, i.bytes)) = some (some z, size, bytes)) (hz : z.cells.size = size) (hs0 : 0 < size)
    (v : Value) (n m c : Nat) (ad : Addr) (xs news : List Value) (hx : a.eval x = v) (hy : a.eval y = .slice (some ad) m c) (hown : w.ownsRow base e size v n xs) (hl : news.length = m * size) (hnews : ∀ j u, news[j]? = some u → w.cell? (ad.add j) = some u) (h1 : ∀ u ∈ news, u.oneCell' = true)
    (h63 : n + m ≤ maxLen) (hbytes : (n + m) * bytes ≤ 140737488355328) (hbase : base ≤ w.heap.size)
    (h : ∀ v' w', w'.ownsRow base e size v' (n + m) (xs ++ news) → w.grownBy w' v.ownBlock → (v'.ownBlock = v.ownBlock ∨ v'.ownBlock = some w.heap.size) → wpList P ops Q rest (a.put o.dst v') w') : wpList P ops Q (o :: rest) a w :=
  wpList_plain hgd fun _ hK => wp_appK x y t ho base e z size bytes ht hinfo hz hs0 v n m c ad xs news hx hy hown hl hnews h1 h63 hbytes hbase fun v' w' h2 h3 h4 => hK _ _ (h v' w' h2 h3 h4)
theorem step_appK {w : World} {ops : Array Oper} {o : Oper} {a : Act} {K : Act → World → Prop} {Q : Exit → Act → World → Prop} {E : Prop} (hgd : o.guard = none) (x y : Operand) (t : TypeId)
    (ho : o.op = .call { callee := .builtin .append, args := #[x, y], argTypes := #[t, t] })
    (base : Nat) (e : TypeId) (z : Value) (size bytes : Nat) (ht : P.underlying t = some (.slice e)) (hinfo : (P.info? e).map (fun i => (i.zero, i.size, i.bytes)) = some (some z, size, bytes)) (hz : z.cells.size = size) (hs0 : 0 < size)
    (v : Value) (n m c : Nat) (ad : Addr) (xs news : List Value) (hx : a.eval x = v) (hy : a.eval y = .slice (some ad) m c) (hown : w.ownsRow base e size v n xs) (hl : news.length = m * size) (hnews : ∀ j u, news[j]? = some u → w.cell? (ad.add j) = some u) (h1 : ∀ u ∈ news, u.oneCell' = true)
    (h63 : n + m ≤ maxLen) (hbytes : (n + m) * bytes ≤ 140737488355328) (hbase : base ≤ w.heap.size)
    (h : ∀ v' w', w'.ownsRow base e size v' (n + m) (xs ++ news) → w.grownBy w' v.ownBlock → (v'.ownBlock = v.ownBlock ∨ v'.ownBlock = some w.heap.size) → K (a.put o.dst v') w') :
    if Region.wanted o (yielded ops a.tmps) = true then Oper.wp P o a w K Q else E := by
  have hw : Region.wanted o (yielded ops a.tmps) = true := by simp [Region.wanted, hgd]
  rw [if_pos hw]
  exact wp_appK x y t ho base e z size bytes ht hinfo hz hs0 v n m c ad xs news hx hy hown hl hnews h1 h63 hbytes hbase h
theorem new_cells (w : World) (cs : Array Value) (t : TypeId) : ∀ j u, cs.toList[j]? = some u → (w.alloc (.cells cs t)).cell? ((⟨w.heap.size, 0, none⟩ : Addr).add j) = some u := by
  intro j u hu
  rw [add_plain, cell_of_row _ w.heap.size j cs t (0, 0) (heap_alloc_new w _)]
  simpa using hu
theorem row_mono {w : World} {base base' : Nat} {e : TypeId} {sz n : Nat} {v : Value} {xs : List Value} (h : w.ownsRow base e sz v n xs) (hb : base' ≤ base) : w.ownsRow base' e sz v n xs := by
  refine ⟨h.1, ?_⟩
  rcases h.2 with h0 | ⟨g, cap, cur, h1, h2, h3⟩
  · exact .inl h0
  · exact .inr ⟨g, cap, cur, h1, Nat.le_trans hb h2, h3⟩
theorem new_slice_cell {w : World} {base : Nat} {e : TypeId} {size : Nat} {v : Value} {n : Nat} {xs : List Value} (h : w.ownsRow base e size v n xs) (hn : 0 < n) : ∃ g cap, v = .slice (some ⟨g, 0, none⟩) n cap ∧ ∀ j u, xs[j]? = some u → w.cell? ⟨g, j, none⟩ = some u := by
  rcases h.2 with ⟨rfl, h0⟩ | ⟨g, cap, cur, rfl, _⟩
  · omega
  · exact ⟨g, cap, rfl, fun j u hu => by rw [← add_plain]; exact h.cells rfl j u hu⟩
end
end Go.Proofs.YtpmmajfdcicjiaaGreat.N
/- The pieces of a pair, the program's. -/
namespace Go.Proofs.YtpmmajfdcicjiaaGreat.N
open Go.RowKit
set_option linter.unusedVariables false
set_option linter.unusedSimpArgs false


theorem infoPiece : (Tryz.prog.info? 124).map (fun i => (i.zero, i.size, i.bytes)) = some (some (.agg #[.int .i64 0, .int .i64 0, .int .i64 0, .int .i64 0]), 4, 32) := by kernel_rfl
/-- The cells of a piece. -/
def pcV (a b : List UInt8) : List Value := [.int .i64 (plI a a.length : Nat), .int .i64 (plI b b.length : Nat), .int .i64 (a.length : Nat), .int .i64 (b.length : Nat)]
def pcsV : List (List UInt8) → List (List UInt8) → List Value
  | a :: l, b :: m => pcV a b ++ pcsV l m
  | _, _ => []
theorem pcsV_length : ∀ (l m : List (List UInt8)), l.length = m.length → (pcsV l m).length = l.length * 4
  | [], [], _ => rfl
  | a :: l, b :: m, h => by simp only [pcsV, pcV, List.length_append, List.length_cons, List.length_nil, pcsV_length l m (by simpa using h)]; omega
theorem pcsV_take : ∀ (l m : List (List UInt8)) (k : Nat) (a b : List UInt8), l[k]? = some a → m[k]? = some b → pcsV (l.take (k + 1)) (m.take (k + 1)) = pcsV (l.take k) (m.take k) ++ pcV a b
  | x :: l, y :: m, 0, a, b, h1, h2 => by
    simp only [List.getElem?_cons_zero, Option.some.injEq] at h1 h2
    subst h1; subst h2
    simp [pcsV]
  | x :: l, y :: m, k + 1, a, b, h1, h2 => by
    simp only [List.getElem?_cons_succ] at h1 h2
    simp only [List.take_succ_cons, pcsV, pcsV_take l m k a b h1 h2, List.append_assoc]
  | [], _, _, _, _, h1, _ => by simp at h1
  | _ :: _, [], _, _, _, _, h2 => by simp at h2
theorem pcsV_get : ∀ (l m : List (List UInt8)) (k : Nat) (a b : List UInt8), l[k]? = some a → m[k]? = some b → ∀ i u, (pcV a b)[i]? = some u → (pcsV l m)[k * 4 + i]? = some u
  | x :: l, y :: m, 0, a, b, h1, h2, i, u, hu => by
    simp only [List.getElem?_cons_zero, Option.some.injEq] at h1 h2
    subst h1; subst h2
    have hi : i < (pcV x y).length := (List.getElem?_eq_some_iff.1 hu).1
    rw [pcsV, Nat.zero_mul, Nat.zero_add, List.getElem?_append_left hi]; exact hu
  | x :: l, y :: m, k + 1, a, b, h1, h2, i, u, hu => by
    simp only [List.getElem?_cons_succ] at h1 h2
    have := pcsV_get l m k a b h1 h2 i u hu
    rw [pcsV, List.getElem?_append_right (by simp [pcV]; omega)]
    rw [← this]; congr 1; simp [pcV]; omega
  | [], _, _, _, _, h1, _, _, _, _ => by simp at h1
  | _ :: _, [], _, _, _, _, h2, _, _, _ => by simp at h2
set_option maxHeartbeats 6400000 in
set_option maxRecDepth 100000 in
theorem pieces_calls (A B : Tr) (hc : A.carets = B.carets) (hB : B.carets ≤ 30) (pa pb : Option Addr) (w : World) (ra : Rep w A pa) (rb : Rep w B pb) :
    Calls Tryz.prog 113 #[.agg #[.pointer pa, .pointer pb]] w fun e w' => ∃ v, e = .returned v ∧ w'.ownsRow w.heap.size 124 4 v (A.carets + 1) (pcsV (addrs A []) (addrs B [])) ∧ Ext w w' := by
  have X0 := Lib.hid ((Ext.refl w).alloc (.cells #[.pointer pa, .pointer pb] 67))
  have B0 := Lib.hid (heap_alloc_new w (.cells #[.pointer pa, .pointer pb] 67))
  have C1 := Lib.hid (fun W (h : Ext w W) => addresses_calls A [] ⟨#[]⟩ pa W (by omega) (by simp; omega) rfl (ra.ext h))
  have C2 := Lib.hid (fun W (h : Ext w W) => addresses_calls B [] ⟨#[]⟩ pb W (by omega) (by simp; omega) rfl (rb.ext h))
  have LA := addrs_length A []
  have LB := addrs_length B []
  rw [← LA]
  have DA : Hid (∀ x ∈ addrs A [], x.length ≤ 40) := fun x hx => by have := addrs_depth A [] x hx; have := A.depth_le; simp at *; omega
  have DB : Hid (∀ x ∈ addrs B [], x.length ≤ 40) := fun x hx => by have := addrs_depth B [] x hx; have := B.depth_le; simp at *; omega
  have LL : Hid ((addrs A []).length = (addrs B []).length) := by show _ = _; omega
  have L31 : (addrs A []).length ≤ 31 := by omega
  generalize addrs A [] = la at *
  generalize addrs B [] = lb at *
  clear hc hB ra rb LA LB
  obtain ⟨c0, c1⟩ := cells_of B0.out
  go_enter Tryz.func113, Tryz.ntmps113
  go_wp2_with fail
  generalize w.alloc (.cells #[.pointer pa, .pointer pb] 67) = W at *
  refine (C2.out _ X0.out).mono ?_
  rintro e w1 ⟨v1, rfl, o1, x1⟩
  obtain ⟨A1, q1, rfl, _, _⟩ := o1.reads
  rw [sls_length] at o1 ⊢
  have X1 := Lib.hid (X0.out.trans x1)
  have R1 := Lib.hid o1.reads
  obtain ⟨c0, c1⟩ := cells_of (x1.at B0.out)
  clear o1 x1
  go_wp2_with fail
  refine (C1.out _ X1.out).mono ?_
  rintro e w2 ⟨v2, rfl, o2, x2⟩
  obtain ⟨A2, q2, rfl, _, _⟩ := o2.reads
  rw [sls_length] at o2 ⊢
  have X2 := Lib.hid (X1.out.trans x2)
  have R1 := Lib.hid (R1.out.ext x2)
  have R2 := Lib.hid o2.reads
  clear o2 x2 c0 c1
  go_wp2_with fail
  go_loopw [14, 3] (fun i o wr => ∃ k : Nat, k ≤ la.length ∧ i = .int .i64 k ∧ Hid (wr.ownsRow w2.heap.size 124 4 o k (pcsV (la.take k) (lb.take k))) ∧ Hid (Ext w2 wr)) (fun i _ _ => la.length - (intOf i).toNat)
  case atStart => exact ⟨0, Nat.zero_le _, rfl, World.ownsRow_nil _ _ _ _, Ext.refl _⟩
  case round =>
    obtain ⟨k, hk, rfl, HO, HX⟩ := hrel
    by_cases hlt : k < la.length
    · have hlt2 : k < lb.length := by rw [← LL.out]; exact hlt
      obtain ⟨Ax, cx, e1, _, rd⟩ := R2.out.ext HX.out
      rw [sls_length] at rd e1
      obtain ⟨ad, e2, ca⟩ := rd (by omega)
      injection e1 with e3 e4 e5
      subst e3 e5
      subst e2
      clear e4
      have c1 := ca k _ (sls_get la k hlt)
      obtain ⟨Ay, cy, e1, _, rd⟩ := R1.out
      rw [sls_length] at rd e1
      obtain ⟨ad2, e2, cb⟩ := rd (by omega)
      injection e1 with e3 e4 e5
      subst e3 e5
      subst e2
      clear e4
      have d0 := cb k _ (sls_get lb k hlt2)
      have d1 := HX.out.cell d0
      have h0 : (0 : Int) ≤ k := by omega
      have h1 : (k : Int) < la.length := by omega
      have h2 : (k : Int) < lb.length := by omega
      have PT := Lib.hid (pcsV_take la lb k la[k] lb[k] (List.getElem?_eq_getElem hlt) (List.getElem?_eq_getElem hlt2))
      have LA := DA.out _ (List.getElem_mem hlt)
      have LB := DB.out _ (List.getElem_mem hlt2)
      have PA := Lib.hid (fun W => placeOf_calls la[k] LA W)
      have PB := Lib.hid (fun W => placeOf_calls lb[k] LB W)
      unfold pcV at PT
      have SA : Hid ((S la[k]).size = la[k].length) := rfl
      have SB : Hid ((S lb[k]).size = lb[k].length) := rfl
      clear ca cb rd
      generalize la[k] = xa at *
      generalize lb[k] = xb at *
      generalize plI xa xa.length = na at *
      generalize plI xb xb.length = nb at *
      have LO := Lib.hid (fun j hj => (HO.out.lt j hj).1)
      go_wp2_with fail
      have XL := Lib.hid ((HX.out.alloc (.cells #[.int .i64 (na : Nat), .int .i64 (nb : Nat), .int .i64 (xa.length : Nat), .int .i64 (xb.length : Nat)] 124)).drew)
      have XR := Lib.hid (((Ext.refl wr).alloc (.cells #[.int .i64 (na : Nat), .int .i64 (nb : Nat), .int .i64 (xa.length : Nat), .int .i64 (xb.length : Nat)] 124)).drew)
      rw [← SA.out, ← SB.out] at XL PT XR
      go_region_held3 (fun w' => w'.cell? (ad2.add k) = some (.string (S xb)) ∧ Ext w2 w')
        (first | with_reducible exact ⟨HX.out.drew.cell d0, HX.out.drew⟩ | with_reducible exact ⟨XL.out.cell d0, XL.out⟩ | with_reducible exact ⟨x4.cell d0, x4⟩ | fail)
        (first
          | (go_at_call_of 146 (Value.string (S xa)); refine (PA.out _).mono ?_; rintro e w1 ⟨rfl, rfl⟩)
          | (go_at_call_of 146 (Value.string (S xb)); refine (PB.out _).mono ?_; rintro e w1 ⟨rfl, rfl⟩)
          | (refine step_appK (by rfl) (.tmp 19) (.tmp 35) 126 (by rfl) w2.heap.size 124 _ 4 32 Tryz.underlying126 infoPiece rfl (by omega) _ k 1 1 _ _ [.int .i64 (na : Nat), .int .i64 (nb : Nat), .int .i64 ((S xa).size : Nat), .int .i64 ((S xb).size : Nat)] (by rfl) (by rfl) (row_ext HO.out XR.out) rfl (new_cells wr #[.int .i64 (na : Nat), .int .i64 (nb : Nat), .int .i64 ((S xa).size : Nat), .int .i64 ((S xb).size : Nat)] _) (by simp [Value.oneCell']) (by unfold maxLen; omega) (by omega) XL.out.size ?_; intro v4 w4 o4 g4 _; have x4 := XL.out.grown g4 LO.out; rw [← PT.out] at o4)
          | fail)
      have O4 := Lib.hid o4
      have X4 := Lib.hid x4
      clear o4 g4 x4
      go_wp2_with fail
      exact ⟨⟨k + 1, by omega, by go_num, O4.out, X4.out⟩, by simp [intOf]; omega⟩
    · have h1 : (la.length : Int) ≤ k := by omega
      obtain rfl : k = la.length := by omega
      have HO2 := HO.out
      rw [List.take_length, show lb.take la.length = lb by rw [LL.out, List.take_length]] at HO2
      have HO2 := Lib.hid HO2
      go_wp2_with fail
      go_ret
      exact ⟨_, rfl, row_mono HO2.out X2.out.size, X2.out.trans HX.out⟩

theorem facts4 {w : World} {g : Nat} {x y z u : Value} {t : TypeId} (h : w.heap[g]? = some (.cells #[x, y, z, u] t)) : (w.cell? ⟨g, 0, none⟩ = some x ∧ w.cell? ⟨g, 1, none⟩ = some y ∧ w.cell? ⟨g, 2, none⟩ = some z ∧ w.cell? ⟨g, 3, none⟩ = some u) ∧ w.frozen? ⟨g, 0, none⟩ = false ∧ w.frozen? ⟨g, 1, none⟩ = false ∧ w.frozen? ⟨g, 2, none⟩ = false ∧ w.frozen? ⟨g, 3, none⟩ = false := by
  simp [World.cell?, World.frozen?, h]
def set4 (w : World) (g : Nat) (a b c d : Value) : World := (((w.setCell ⟨g, 0, none⟩ a).setCell ⟨g, 1, none⟩ b).setCell ⟨g, 2, none⟩ c).setCell ⟨g, 3, none⟩ d
theorem set4_heap {w : World} {g : Nat} {t : TypeId} {x y z u : Value} (h : w.heap[g]? = some (.cells #[x, y, z, u] t)) (a b c d : Value) : (set4 w g a b c d).heap[g]? = some (.cells #[a, b, c, d] t) := by
  have hg := (Array.getElem?_eq_some_iff.1 h).1
  unfold set4
  simp [World.setCell, Array.getElem?_modify, h]
theorem Ext.set4 {a w : World} (h : Ext a w) {g : Nat} (hg : a.heap.size ≤ g) (u v x y : Value) : Ext a (N.set4 w g u v x y) := (((h.setCell (p := ⟨g, 0, none⟩) hg u).setCell (p := ⟨g, 1, none⟩) hg v).setCell (p := ⟨g, 2, none⟩) hg x).setCell (p := ⟨g, 3, none⟩) hg y
/-- The first place whose interval ends behind a place; else the last one. -/
def pcAt (ls : List (List UInt8)) (p : Nat) : Nat := (ls.findIdx? fun a => decide (p < plI a a.length + part a.length)).getD (ls.length - 1)
set_option maxHeartbeats 6400000 in
set_option maxRecDepth 100000 in
theorem pieceAt_calls (la lb : List (List UInt8)) (hl : la.length = lb.length) (h1 : 0 < la.length) (h31 : la.length ≤ 31) (hd : ∀ x ∈ la, x.length ≤ 40) (p base : Nat) (hp : p ≤ 1099511627776) (v : Value) (w : World) (hv : w.ownsRow base 124 4 v la.length (pcsV la lb)) :
    Calls Tryz.prog 112 #[v, .int .i64 p] w fun e w' => ∃ a b, la[pcAt la p]? = some a ∧ lb[pcAt la p]? = some b ∧ e = .returned (.agg (pcV a b).toArray) ∧ Ext w w' := by
  obtain ⟨g, c, rfl, hcell⟩ := new_slice_cell hv h1
  have HV := Lib.hid hcell
  have X0 := Lib.hid ((Ext.refl w).alloc (.cells #[.int .i64 0, .int .i64 0, .int .i64 0, .int .i64 0] 124))
  have HL := Lib.hid hl
  clear hv hcell hl
  go_enter Tryz.func112, Tryz.ntmps112
  go_wp2_with fail
  have N0 : Hid ((w.alloc (.cells #[.int .i64 0, .int .i64 0, .int .i64 0, .int .i64 0] 124)).heap[w.heap.size]? = some (.cells #[.int .i64 0, .int .i64 0, .int .i64 0, .int .i64 0] 124)) := heap_alloc_new w _
  generalize w.alloc (.cells #[.int .i64 0, .int .i64 0, .int .i64 0, .int .i64 0] 124) = W at *
  go_loopw [9] (fun i wr => ∃ k : Nat, k ≤ la.length ∧ i = .int .i64 k ∧ Hid (∀ j a, j < k → la[j]? = some a → plI a a.length + part a.length ≤ p) ∧ Hid (Ext W wr)) (fun i _ => la.length - (intOf i).toNat)
  case atStart => exact ⟨0, Nat.zero_le _, rfl, (fun j a h => absurd h (Nat.not_lt_zero _)), Ext.refl _⟩
  case round =>
    obtain ⟨k, hk, rfl, HP, HX⟩ := hrel
    by_cases hlt : k < la.length
    · have hlt2 : k < lb.length := by rw [← HL.out]; exact hlt
      have HA := List.getElem?_eq_getElem hlt
      have HB := List.getElem?_eq_getElem hlt2
      have LA := hd _ (List.getElem_mem hlt)
      have PL := plI_le la[k] la[k].length LA
      have G := pcsV_get la lb k _ _ HA HB
      have xx := X0.out.trans HX.out
      have c0 : wr.cell? ⟨g, k * 4, none⟩ = some (.int .i64 (plI la[k] la[k].length : Nat)) := xx.cell (HV.out _ _ (G 0 _ rfl))
      have c1 : wr.cell? ⟨g, k * 4 + 1, none⟩ = some (.int .i64 (plI lb[k] lb[k].length : Nat)) := xx.cell (HV.out _ _ (G 1 _ rfl))
      have c2 : wr.cell? ⟨g, k * 4 + 2, none⟩ = some (.int .i64 (la[k].length : Nat)) := xx.cell (HV.out _ _ (G 2 _ rfl))
      have c3 : wr.cell? ⟨g, k * 4 + 3, none⟩ = some (.int .i64 (lb[k].length : Nat)) := xx.cell (HV.out _ _ (G 3 _ rfl))
      have HA := Lib.hid HA
      have HB := Lib.hid HB
      have PM := part_mul LA
      have CE := Lib.hid (fun W => end_calls (plI la[k] la[k].length : Nat) (plI lb[k] lb[k].length : Nat) la[k].length lb[k].length (part la[k].length) LA PM (by omega) W)
      have PVV : Hid ((pcV la[k] lb[k]).toArray = #[.int .i64 (plI la[k] la[k].length : Nat), .int .i64 (plI lb[k] lb[k].length : Nat), .int .i64 (la[k].length : Nat), .int .i64 (lb[k].length : Nat)]) := rfl
      have g0 : (0 : Int) ≤ k := by omega
      have g1 : (k : Int) < la.length := by omega
      have N1 := Lib.hid (HX.out.at N0.out)
      have NW : Hid (Ext wr (wr.alloc (.cells #[.int .i64 (plI la[k] la[k].length : Nat), .int .i64 (plI lb[k] lb[k].length : Nat), .int .i64 (la[k].length : Nat), .int .i64 (lb[k].length : Nat)] 124))) := (Ext.refl wr).alloc _
      have NB : Hid ((wr.alloc (.cells #[.int .i64 (plI la[k] la[k].length : Nat), .int .i64 (plI lb[k] lb[k].length : Nat), .int .i64 (la[k].length : Nat), .int .i64 (lb[k].length : Nat)] 124)).heap[wr.heap.size]? = some (.cells #[.int .i64 (plI la[k] la[k].length : Nat), .int .i64 (plI lb[k] lb[k].length : Nat), .int .i64 (la[k].length : Nat), .int .i64 (lb[k].length : Nat)] 124)) := heap_alloc_new wr _
      have PK : Hid (p < plI la[k] la[k].length + part la[k].length → pcAt la p = k) := fun h => by
        unfold pcAt
        rw [List.findIdx?_eq_some_iff_getElem.2 ⟨hlt, by simpa using h, fun j hj => by
          have := HP.out j la[j] hj (List.getElem?_eq_getElem _)
          simp; omega⟩]; rfl
      have PNX : Hid (¬ p < plI la[k] la[k].length + part la[k].length → ∀ j a, j < k + 1 → la[j]? = some a → plI a a.length + part a.length ≤ p) := fun h j a hj ha => by
        rcases Nat.lt_or_eq_of_le (Nat.lt_succ_iff.1 hj) with hj | rfl
        · exact HP.out j a hj ha
        · rw [HA.out] at ha; injection ha with ha; subst ha; omega
      clear G PM xx
      generalize plI la[k] la[k].length = na at *
      generalize plI lb[k] lb[k].length = nb at *
      generalize part la[k].length = pk at *
      generalize hla : la[k].length = l1 at *
      generalize hlb : lb[k].length = l2 at *
      clear hla hlb
      go_wp2_with fail
      generalize wr.alloc (.cells #[.int .i64 (na : Nat), .int .i64 (nb : Nat), .int .i64 (l1 : Nat), .int .i64 (l2 : Nat)] 124) = W1 at *
      refine (CE.out _).mono ?_
      rintro e w2 ⟨rfl, x2⟩
      have X2 := Lib.hid (X0.out.trans (HX.out.trans (NW.out.trans x2)))
      have X2' := Lib.hid (HX.out.trans (NW.out.trans x2))
      have XS : Hid (w.heap.size ≤ w.heap.size) := Nat.le_refl _
      by_cases hp2 : p < na + pk
      · have t1 : (p : Int) < (na : Int) + pk := by omega
        obtain ⟨⟨d0, d1, d2, d3⟩, _⟩ := facts4 (x2.at NB.out)
        obtain ⟨⟨e0, e1, e2, e3⟩, f0, f1, f2, f3⟩ := facts4 ((NW.out.trans x2).at N1.out)
        have HH := Lib.hid (set4_heap ((NW.out.trans x2).at N1.out) (.int .i64 na) (.int .i64 nb) (.int .i64 l1) (.int .i64 l2))
        have PE := Lib.hid (PK.out hp2)
        clear x2
        go_wp2_with fail
        change bodyPost _ _ _ _ _ (N.set4 _ w.heap.size (.int .i64 na) (.int .i64 nb) (.int .i64 l1) (.int .i64 l2))
        obtain ⟨⟨hc0, hc1, hc2, hc3⟩, _⟩ := facts4 HH.out
        have XX := X2.out.set4 (g := w.heap.size) XS.out (.int .i64 na) (.int .i64 nb) (.int .i64 l1) (.int .i64 l2)
        generalize N.set4 _ w.heap.size (.int .i64 na) (.int .i64 nb) (.int .i64 l1) (.int .i64 l2) = W3 at *
        refine bodyPost_ret (v := .agg #[.int .i64 na, .int .i64 nb, .int .i64 l1, .int .i64 l2]) (by simp [results, Tryz.results112, go_sem, hc0, hc1, hc2, hc3]) rfl ?_
        rw [PE.out]
        exact ⟨_, _, HA.out, HB.out, by rw [PVV.out], XX⟩
      · have t1 : ¬ (p : Int) < (na : Int) + pk := by omega
        have HP2 := Lib.hid (PNX.out hp2)
        clear x2
        go_wp2_with fail
        exact ⟨⟨k + 1, by omega, by go_num, HP2.out, X2'.out⟩, by simp [intOf]; omega⟩
    · obtain rfl : k = la.length := by omega
      obtain ⟨m, hm⟩ : ∃ m, la.length = m + 1 := ⟨la.length - 1, by omega⟩
      have hlt : m < la.length := by omega
      have hlt2 : m < lb.length := by rw [← HL.out]; exact hlt
      have HA := Lib.hid (List.getElem?_eq_getElem hlt)
      have HB := Lib.hid (List.getElem?_eq_getElem hlt2)
      have G := pcsV_get la lb m _ _ HA.out HB.out
      have xx := X0.out.trans HX.out
      have c0 : wr.cell? ⟨g, m * 4, none⟩ = some (.int .i64 (plI la[m] la[m].length : Nat)) := xx.cell (HV.out _ _ (G 0 _ rfl))
      have c1 : wr.cell? ⟨g, m * 4 + 1, none⟩ = some (.int .i64 (plI lb[m] lb[m].length : Nat)) := xx.cell (HV.out _ _ (G 1 _ rfl))
      have c2 : wr.cell? ⟨g, m * 4 + 2, none⟩ = some (.int .i64 (la[m].length : Nat)) := xx.cell (HV.out _ _ (G 2 _ rfl))
      have c3 : wr.cell? ⟨g, m * 4 + 3, none⟩ = some (.int .i64 (lb[m].length : Nat)) := xx.cell (HV.out _ _ (G 3 _ rfl))
      have PVV : Hid ((pcV la[m] lb[m]).toArray = #[.int .i64 (plI la[m] la[m].length : Nat), .int .i64 (plI lb[m] lb[m].length : Nat), .int .i64 (la[m].length : Nat), .int .i64 (lb[m].length : Nat)]) := rfl
      have PE : Hid (pcAt la p = m) := by
        show _ = _
        unfold pcAt
        rw [List.findIdx?_eq_none_iff.2 (fun x hx => by
          obtain ⟨j, hj, rfl⟩ := List.mem_iff_getElem.1 hx
          have := HP.out j la[j] hj (List.getElem?_eq_getElem _)
          simp; omega)]
        show la.length - 1 = m
        omega
      have N1 := Lib.hid (HX.out.at N0.out)
      have X2 := Lib.hid xx
      have XS : Hid (w.heap.size ≤ w.heap.size) := Nat.le_refl _
      have q1 : (la.length : Int) - 1 = (m : Int) := by omega
      have g0 : (0 : Int) ≤ m := by omega
      have g1 : (m : Int) < la.length := by omega
      clear G xx hm
      generalize plI la[m] la[m].length = na at *
      generalize plI lb[m] lb[m].length = nb at *
      generalize hla : la[m].length = l1 at *
      generalize hlb : lb[m].length = l2 at *
      clear hla hlb
      obtain ⟨⟨e0, e1, e2, e3⟩, f0, f1, f2, f3⟩ := facts4 N1.out
      have HH := Lib.hid (set4_heap N1.out (.int .i64 na) (.int .i64 nb) (.int .i64 l1) (.int .i64 l2))
      go_wp2_with fail
      change bodyPost _ _ _ _ _ (N.set4 _ w.heap.size (.int .i64 na) (.int .i64 nb) (.int .i64 l1) (.int .i64 l2))
      obtain ⟨⟨hc0, hc1, hc2, hc3⟩, _⟩ := facts4 HH.out
      have XX := X2.out.set4 (g := w.heap.size) XS.out (.int .i64 na) (.int .i64 nb) (.int .i64 l1) (.int .i64 l2)
      generalize N.set4 _ w.heap.size (.int .i64 na) (.int .i64 nb) (.int .i64 l1) (.int .i64 l2) = W3 at *
      refine bodyPost_ret (v := .agg #[.int .i64 na, .int .i64 nb, .int .i64 l1, .int .i64 l2]) (by simp [results, Tryz.results112, go_sem, hc0, hc1, hc2, hc3]) rfl ?_
      rw [PE.out]
      exact ⟨_, _, HA.out, HB.out, by rw [PVV.out], XX⟩
end Go.Proofs.YtpmmajfdcicjiaaGreat.N
