import Derived.Deep.AppendLies
import Derived.Laws.AppendOwn
import Derived.Laws.AppendOwnNone
import Derived.Laws.MakeOwn
import Derived.Laws.OwnMore
import Derived.Maps.AppendAt
import Derived.Test.YtdcipaaclpedhaaGreatXr4
/- A part of the proof: lemmas that later parts use. -/
set_option linter.unusedVariables false
set_option linter.unusedSimpArgs false
namespace Go.Proofs.YtdcipaaclpedhaaGreat.N
open Go.RowKit
def Reads (w : World) (v : Value) (xs : List Value) : Prop :=
  ∃ A c, v = .slice A xs.length c ∧ (A = none → c = 0) ∧ (0 < xs.length → ∃ ad, A = some ad ∧ ∀ j u, xs[j]? = some u → w.cell? (ad.add j) = some u)
def Reads0 (w : World) (v : Value) (xs : List Value) : Prop :=
  ∃ A c, v = .slice A xs.length c ∧ True ∧ (0 < xs.length → ∃ ad, A = some ad ∧ ∀ j u, xs[j]? = some u → w.cell? (ad.add j) = some u)
def Own (w : World) (base : Nat) (e : TypeId) (v : Value) (xs : List Value) : Prop := w.ownsRow base e 1 v xs.length xs
theorem add_plain (g j : Nat) : (⟨g, 0, none⟩ : Addr).add j = ⟨g, j, none⟩ := by unfold Addr.add; split <;> simp_all
theorem Own.nil (w : World) (base : Nat) (e : TypeId) : Own w base e (.slice none 0 0) [] := ⟨by simp, .inl ⟨rfl, rfl⟩⟩
theorem Own.reads {w : World} {base : Nat} {e : TypeId} {v : Value} {xs : List Value} (h : Own w base e v xs) : Reads w v xs := by
  rcases h.2 with ⟨rfl, h0⟩ | ⟨g, cap, cur, rfl, hb, hh, h1, h2, h3, h4⟩
  · exact ⟨none, 0, by rw [h0], fun _ => rfl, fun hp => by omega⟩
  · refine ⟨_, cap, rfl, (fun h => by cases h), fun _ => ⟨_, rfl, fun j u hu => ?_⟩⟩
    have hj : j < xs.length := (List.getElem?_eq_some_iff.1 hu).1
    have : w.cell? ⟨g, j, none⟩ = xs[j]? := World.ownsRow.cellAt (base := base) (e := e) (size := 1) (n := xs.length) (cap := cap) (xs := xs) h j (by omega)
    rw [add_plain, this, hu]
theorem Reads.ext {w w' : World} {v : Value} {xs : List Value} (h : Reads w v xs) (hx : Ext w w') : Reads w' v xs := by
  obtain ⟨A, c, e, h0, h⟩ := h
  exact ⟨A, c, e, h0, fun hp => let ⟨ad, ea, hc⟩ := h hp; ⟨ad, ea, fun j u hu => hx.cell (hc j u hu)⟩⟩
theorem Reads0.ext {w w' : World} {v : Value} {xs : List Value} (h : Reads0 w v xs) (hx : Ext w w') : Reads0 w' v xs := by
  obtain ⟨A, c, e, h0, h⟩ := h
  exact ⟨A, c, e, h0, fun hp => let ⟨ad, ea, hc⟩ := h hp; ⟨ad, ea, fun j u hu => hx.cell (hc j u hu)⟩⟩
theorem Ext.grownBy {w w' : World} (h : Ext w w') (row : Option Nat) : w.grownBy w' row := ⟨h.os, h.tape, h.output, h.size, fun i hi _ => h.block i hi⟩
theorem Own.ext {w w' : World} {base : Nat} {e : TypeId} {v : Value} {xs : List Value} (h : Own w base e v xs) (hx : Ext w w') : Own w' base e v xs :=
  World.ownsRow.kept h (hx.grownBy none) (by cases v.ownBlock <;> simp)
theorem row_ext {w w' : World} {base : Nat} {e : TypeId} {sz n : Nat} {v : Value} {xs : List Value} (h : w.ownsRow base e sz v n xs) (hx : Ext w w') : w'.ownsRow base e sz v n xs :=
  World.ownsRow.kept h (hx.grownBy none) (by cases v.ownBlock <;> simp)
theorem Own.mono {w : World} {base base' : Nat} {e : TypeId} {v : Value} {xs : List Value} (h : Own w base e v xs) (hb : base' ≤ base) : Own w base' e v xs := by
  refine ⟨h.1, ?_⟩
  rcases h.2 with h | ⟨g, cap, cur, e1, h1, h2⟩
  · exact .inl h
  · exact .inr ⟨g, cap, cur, e1, by omega, h2⟩
theorem Own.far {w w' : World} {base : Nat} {e : TypeId} {v : Value} {xs : List Value} {row : Option Nat} (h : Own w base e v xs) (hg : w.grownBy w' row) (hr : ∀ k, row = some k → v.ownBlock ≠ some k) : Own w' base e v xs :=
  World.ownsRow.kept h hg (by
    cases hv : v.ownBlock with
    | none => exact .inl rfl
    | some k => exact .inr fun e => hr k e.symm hv)
theorem Reads.far {w w' : World} {v : Value} {xs : List Value} {row : Option Nat} (h : Reads w v xs) (hg : w.grownBy w' row) (hr : ∀ k, row = some k → v.ownBlock ≠ some k) : Reads w' v xs := by
  obtain ⟨A, c, rfl, h0, h⟩ := h
  refine ⟨A, c, rfl, h0, fun hp => ?_⟩
  obtain ⟨ad, rfl, hc⟩ := h hp
  refine ⟨ad, rfl, fun j u hu => hg.cell (hc j u hu) ?_⟩
  intro e
  have hb : (ad.add j).block = ad.block := by unfold Addr.add; split <;> rfl
  exact hr _ e.symm (by simp [Value.ownBlock, hb])
theorem Own.block {w : World} {base : Nat} {e : TypeId} {v : Value} {xs : List Value} (h : Own w base e v xs) : ∀ k, v.ownBlock = some k → base ≤ k ∧ k < w.heap.size := World.ownsRow.lt h
theorem Own.lit (w : World) (base : Nat) (e : TypeId) (cs : Array Value) (hb : base ≤ w.heap.size) (hm : cs.size ≤ maxLen) : Own (w.alloc (.cells cs e)) base e (.slice (some ⟨w.heap.size, 0, none⟩) cs.size cs.size) cs.toList :=
  World.ownsRow_lit w cs cs.size hb hm (by simp)
theorem Ext.grown {w0 w w' : World} {row : Option Nat} (h : Ext w0 w) (hg : w.grownBy w' row) (hr : ∀ k, row = some k → w0.heap.size ≤ k) : Ext w0 w' := Below.grown h hg h.size hr
theorem Own.typed {w : World} {base : Nat} {e : TypeId} {v : Value} {xs : List Value} (h : Own w base e v xs) : ∀ k, v.ownBlock = some k → ∃ cs fr, w.heap[k]? = some (.cells cs e fr) := by
  intro k hk
  rcases h.2 with ⟨rfl, _⟩ | ⟨g, cap, cur, rfl, hb, hh, _⟩
  · cases hk
  · have : g = k := by simpa [Value.ownBlock] using hk
    subst this
    exact ⟨cur, _, hh⟩
theorem Rep.row {w w' : World} {base : Nat} {e : TypeId} {v : Value} {xs : List Value} {T : Tr} {p : Option Addr} (h : Rep w T p) (ho : Own w base e v xs) (he : e ≠ 94) (hg : w.grownBy w' v.ownBlock) : Rep w' T p :=
  Rep.far hg (fun k hk => by obtain ⟨cs, fr, h⟩ := ho.typed k hk; exact ⟨cs, e, fr, h, he⟩) h
def Reps (w : World) (Ts : List Tr) (ps : List (Option Addr)) : Prop := Ts.length = ps.length ∧ ∀ (k : Nat) (T : Tr) (p : Option Addr), Ts[k]? = some T → ps[k]? = some p → Rep w T p
theorem Reps.ext {w w' : World} {Ts ps} (h : Reps w Ts ps) (hx : Ext w w') : Reps w' Ts ps := ⟨h.1, fun k T p h1 h2 => (h.2 k T p h1 h2).ext hx⟩
theorem Reps.row {w w' : World} {base : Nat} {e : TypeId} {v : Value} {xs : List Value} {Ts ps} (h : Reps w Ts ps) (ho : Own w base e v xs) (he : e ≠ 94) (hg : w.grownBy w' v.ownBlock) : Reps w' Ts ps :=
  ⟨h.1, fun k T p h1 h2 => (h.2 k T p h1 h2).row ho he hg⟩
theorem Reps.nil (w : World) : Reps w [] [] := ⟨rfl, fun k T p h => by simp at h⟩
theorem Reps.snoc {w : World} {Ts ps T p} (h : Reps w Ts ps) (hr : Rep w T p) : Reps w (Ts ++ [T]) (ps ++ [p]) := by
  refine ⟨by simp [h.1], fun k A q h1 h2 => ?_⟩
  rcases Nat.lt_trichotomy k Ts.length with hk | hk | hk
  · rw [List.getElem?_append_left hk] at h1
    rw [List.getElem?_append_left (by rw [← h.1]; exact hk)] at h2
    exact h.2 k A q h1 h2
  · subst hk
    rw [List.getElem?_append_right (Nat.le_refl _), Nat.sub_self] at h1
    rw [List.getElem?_append_right (by rw [← h.1]; exact Nat.le_refl _), ← h.1, Nat.sub_self] at h2
    simp at h1 h2
    subst h1; subst h2; exact hr
  · rw [List.getElem?_eq_none (by simp; omega)] at h1; cases h1
theorem Reps.append {w : World} {Ts ps Us qs} (h : Reps w Ts ps) (k : Reps w Us qs) : Reps w (Ts ++ Us) (ps ++ qs) := by
  refine ⟨by simp [h.1, k.1], fun i A q h1 h2 => ?_⟩
  rcases Nat.lt_or_ge i Ts.length with hi | hi
  · rw [List.getElem?_append_left hi] at h1
    rw [List.getElem?_append_left (by rw [← h.1]; exact hi)] at h2
    exact h.2 i A q h1 h2
  · rw [List.getElem?_append_right hi] at h1
    rw [List.getElem?_append_right (by rw [← h.1]; exact hi), ← h.1] at h2
    exact k.2 _ A q h1 h2
theorem Own.lo {w : World} {base : Nat} {e : TypeId} {v : Value} {xs : List Value} (h : Own w base e v xs) : ∀ k, v.ownBlock = some k → base ≤ k := fun k hk => (h.block k hk).1
theorem grownBy_refl (w : World) (row : Option Nat) : w.grownBy w row := ⟨rfl, rfl, rfl, Nat.le_refl _, fun _ _ _ => rfl⟩
section
variable {P : Program}
theorem run_app {w : World} (base : Nat) (t ty e : TypeId) (z : Value) (bytes : Nat) (ht : P.underlying t = some (.slice e)) (hinfo : (P.info? e).map (fun i => (i.zero, i.size, i.bytes)) = some (some z, 1, bytes)) (hz : z.cells.size = 1) (hb0 : 0 < bytes)
    (v s : Value) (xs news : List Value) (hown : Own w base e v xs) (hs : Reads w s news) (h1 : ∀ u ∈ news, u.oneCell' = true) (hl : (xs.length + news.length) * bytes ≤ 140737488355328) (hbase : base ≤ w.heap.size) :
    ∃ v' w', (Builtin.append_ #[t, t] ty #[v, s]).run P w = .ok v' w' ∧ Own w' base e v' (xs ++ news) ∧ w.grownBy w' v.ownBlock ∧ (v'.ownBlock = v.ownBlock ∨ v'.ownBlock = some w.heap.size) := by
  obtain ⟨i, hi, hzz⟩ := Option.map_eq_some_iff.1 hinfo
  simp only [Prod.mk.injEq] at hzz
  obtain ⟨hz0, hz1, hz2⟩ := hzz
  have hlen : xs.length + news.length ≤ 140737488355328 := Nat.le_trans (Nat.le_mul_of_pos_right _ hb0) hl
  obtain ⟨A, c, rfl, hnil, hc⟩ := hs
  rcases Nat.eq_zero_or_pos news.length with h0 | h0
  · obtain rfl := List.eq_nil_of_length_eq_zero h0
    cases A with
    | none =>
      obtain rfl := hnil rfl
      exact ⟨v, w, run_append_owned_none (P := P) (w := w) base t ty e i 1 ht hi v xs.length xs hown, by simpa using hown, grownBy_refl w _, .inl rfl⟩
    | some ad =>
      obtain ⟨v', w', hr, h2, h3, _, h5⟩ := run_append_own_at (P := P) w base t ty e i z 1 bytes ht hi hz0 hz1 hz2 hz (by omega) v xs.length xs hown ad 0 c [] (by simp) (by simp) (by simp) (by simp only [maxLen]; omega) hl hbase
      exact ⟨v', w', hr, by simpa [Own] using h2, h3, h5⟩
  · obtain ⟨ad, rfl, hc2⟩ := hc h0
    obtain ⟨v', w', hr, h2, h3, _, h5⟩ := run_append_own_at (P := P) w base t ty e i z 1 bytes ht hi hz0 hz1 hz2 hz (by omega) v xs.length xs hown ad news.length c news (by simp) hc2 h1 (by simp only [maxLen]; omega) hl hbase
    exact ⟨v', w', hr, by simpa [Own] using h2, h3, h5⟩
theorem wp_app {w : World} {o : Oper} {a : Act} {K : Act → World → Prop} {Q : Exit → Act → World → Prop} (x y : Operand) (t : TypeId)
    (ho : o.op = .call { callee := .builtin .append, args := #[x, y], argTypes := #[t, t] })
    (base : Nat) (e : TypeId) (z : Value) (bytes : Nat) (ht : P.underlying t = some (.slice e)) (hinfo : (P.info? e).map (fun i => (i.zero, i.size, i.bytes)) = some (some z, 1, bytes)) (hz : z.cells.size = 1) (hb0 : 0 < bytes)
    (v s : Value) (xs news : List Value) (hx : a.eval x = v) (hy : a.eval y = s) (hown : Own w base e v xs) (hs : Reads w s news) (h1 : ∀ u ∈ news, u.oneCell' = true) (hl : (xs.length + news.length) * bytes ≤ 140737488355328) (hbase : base ≤ w.heap.size)
    (h : ∀ v' w', Own w' base e v' (xs ++ news) → w.grownBy w' v.ownBlock → (v'.ownBlock = v.ownBlock ∨ v'.ownBlock = some w.heap.size) → K (a.put o.dst v') w') : o.wp P a w K Q := by
  obtain ⟨v', w', hr, h2, h3, h4⟩ := run_app (P := P) (w := w) base t o.type e z bytes ht hinfo hz hb0 v s xs news hown hs h1 hl hbase
  unfold Oper.wp execOp
  simp only [ho, resolve, invoke, builtin, Sem.run_bind, Sem.run_pure, Result.andThen_ok, List.map_toArray, List.map_cons, List.map_nil, hx, hy, hr]
  exact h v' w' h2 h3 h4
theorem wpList_app {w : World} {ops : Array Oper} {rest : List Oper} {o : Oper} {a : Act} {Q : Exit → Act → World → Prop} (hgd : o.guard = none) (x y : Operand) (t : TypeId)
    (ho : o.op = .call { callee := .builtin .append, args := #[x, y], argTypes := #[t, t] })
    (base : Nat) (e : TypeId) (z : Value) (bytes : Nat) (ht : P.underlying t = some (.slice e)) (hinfo : (P.info? e).map (fun i => (i.zero, i.size, i.bytes)) = some (some z, 1, bytes)) (hz : z.cells.size = 1) (hb0 : 0 < bytes)
    (v s : Value) (xs news : List Value) (hx : a.eval x = v) (hy : a.eval y = s) (hown : Own w base e v xs) (hs : Reads w s news) (h1 : ∀ u ∈ news, u.oneCell' = true) (hl : (xs.length + news.length) * bytes ≤ 140737488355328) (hbase : base ≤ w.heap.size)
    (h : ∀ v' w', Own w' base e v' (xs ++ news) → w.grownBy w' v.ownBlock → (v'.ownBlock = v.ownBlock ∨ v'.ownBlock = some w.heap.size) → wpList P ops Q rest (a.put o.dst v') w') : wpList P ops Q (o :: rest) a w :=
  wpList_plain hgd fun _ hK => wp_app x y t ho base e z bytes ht hinfo hz hb0 v s xs news hx hy hown hs h1 hl hbase fun v' w' h2 h3 h4 => hK _ _ (h v' w' h2 h3 h4)
theorem step_app {w : World} {ops : Array Oper} {o : Oper} {a : Act} {K : Act → World → Prop} {Q : Exit → Act → World → Prop} {E : Prop} (hgd : o.guard = none) (x y : Operand) (t : TypeId)
    (ho : o.op = .call { callee := .builtin .append, args := #[x, y], argTypes := #[t, t] })
    (base : Nat) (e : TypeId) (z : Value) (bytes : Nat) (ht : P.underlying t = some (.slice e)) (hinfo : (P.info? e).map (fun i => (i.zero, i.size, i.bytes)) = some (some z, 1, bytes)) (hz : z.cells.size = 1) (hb0 : 0 < bytes)
    (v s : Value) (xs news : List Value) (hx : a.eval x = v) (hy : a.eval y = s) (hown : Own w base e v xs) (hs : Reads w s news) (h1 : ∀ u ∈ news, u.oneCell' = true) (hl : (xs.length + news.length) * bytes ≤ 140737488355328) (hbase : base ≤ w.heap.size)
    (h : ∀ v' w', Own w' base e v' (xs ++ news) → w.grownBy w' v.ownBlock → (v'.ownBlock = v.ownBlock ∨ v'.ownBlock = some w.heap.size) → K (a.put o.dst v') w') :
    if Region.wanted o (yielded ops a.tmps) = true then Oper.wp P o a w K Q else E := by
  have hw : Region.wanted o (yielded ops a.tmps) = true := by simp [Region.wanted, hgd]
  rw [if_pos hw]
  exact wp_app x y t ho base e z bytes ht hinfo hz hb0 v s xs news hx hy hown hs h1 hl hbase h
end
end Go.Proofs.YtdcipaaclpedhaaGreat.N
namespace Go.Proofs.YtdcipaaclpedhaaGreat.N
open Go.RowKit
set_option maxHeartbeats 1600000 in
set_option maxRecDepth 100000 in
theorem carets_calls (T : Tr) : ∀ (p : Option Addr) (w : World), T.carets < 1000000000 → Rep w T p →
    Calls Tryz.prog 45 #[.pointer p] w fun e w' => e = .returned (.int .i64 T.carets) ∧ ∃ n, w' = w.drewN n := by
  induction T with
  | leaf =>
    rintro p w _ rfl
    go_enter Tryz.func45, Tryz.ntmps45
    go_wp2
    go_ret
    exact ⟨rfl, 0, rfl⟩
  | node l r ihl ihr =>
    rintro p w hb hr
    have op := hr.open
    clear hr
    obtain ⟨b, pl, pr, rfl, h0, h1, hl, hr⟩ := op
    have H : Hid (_ ∧ _ ∧ _) := Lib.hid (And.intro hl (And.intro hr hb))
    have hbl : 0 ≤ (l.carets : Int) ∧ (l.carets : Int) < 1000000000 := by simp only [Tr.carets] at hb; omega
    have hbr : 0 ≤ (r.carets : Int) ∧ (r.carets : Int) < 1000000000 := by simp only [Tr.carets] at hb; omega
    have hbs : (l.carets : Int) + (r.carets : Int) < 1000000000 := by simp only [Tr.carets] at hb; omega
    clear hl hr hb
    go_enter Tryz.func45, Tryz.ntmps45
    go_wp2_with fail
    go_quiet (first
      | (go_at_call_of 45 (Value.pointer pl); refine Calls.quiet_of (ihl _ _ (by omega) ?_); exact H.out.1.ext ((Ext.refl _).drewN _))
      | (go_at_call_of 45 (Value.pointer pr); refine Calls.quiet_of (ihr _ _ (by omega) ?_); exact H.out.2.1.ext ((Ext.refl _).drewN _)))
    go_wp2_with fail
    go_ret
    exact ⟨by simp [Tr.carets], nq, rfl⟩
set_option maxHeartbeats 1600000 in
set_option maxRecDepth 100000 in
theorem leaves_calls (T : Tr) (p : Option Addr) (w : World) (hb : T.carets < 1000000000) (hr : Rep w T p) :
    Calls Tryz.prog 83 #[.pointer p] w fun e w' => e = .returned (.int .i64 (T.carets + 1)) ∧ ∃ n, w' = w.drewN n := by
  have hb' : 0 ≤ (T.carets : Int) ∧ (T.carets : Int) < 1000000000 := by omega
  have H := Lib.hid hr
  clear hr hb
  go_enter Tryz.func83, Tryz.ntmps83
  go_wp2_with fail
  refine (carets_calls T _ _ (by omega) H.out).mono ?_
  rintro e w1 ⟨rfl, n, rfl⟩
  go_wp2_with fail
  go_ret
  exact ⟨rfl, n, rfl⟩
set_option maxHeartbeats 1600000 in
set_option maxRecDepth 100000 in
theorem text_calls (T : Tr) : ∀ (p : Option Addr) (w : World), T.carets < 1000000000 → Rep w T p →
    Calls Tryz.prog 60 #[.pointer p] w fun e w' => e = .returned (.string (tx T)) ∧ ∃ n, w' = w.drewN n := by
  induction T with
  | leaf =>
    rintro p w _ rfl
    go_enter Tryz.func60, Tryz.ntmps60
    go_wp2
    go_ret
    exact ⟨rfl, 0, rfl⟩
  | node l r ihl ihr =>
    rintro p w hb hr
    have op := hr.open
    clear hr
    obtain ⟨b, pl, pr, rfl, h0, h1, hl, hr⟩ := op
    have H : Hid (_ ∧ _ ∧ _) := Lib.hid (And.intro hl (And.intro hr hb))
    have zl : (tx l).size ≤ 3000000000 := by have := l.txt_length; simp only [Tr.carets] at hb; show l.txt.length ≤ _; omega
    have zr : (tx r).size ≤ 3000000000 := by have := r.txt_length; simp only [Tr.carets] at hb; show r.txt.length ≤ _; omega
    have bl : l.carets < 1000000000 := by simp only [Tr.carets] at hb; omega
    have br : r.carets < 1000000000 := by simp only [Tr.carets] at hb; omega
    have E := Lib.hid (tx_node l r)
    clear hl hr hb
    go_enter Tryz.func60, Tryz.ntmps60
    go_wp2_with fail
    go_quiet (first
      | (go_at_call_of 60 (Value.pointer pl); refine Calls.quiet_of (ihl _ _ bl ?_); exact H.out.1.ext ((Ext.refl _).drewN _))
      | (go_at_call_of 60 (Value.pointer pr); refine Calls.quiet_of (ihr _ _ br ?_); exact H.out.2.1.ext ((Ext.refl _).drewN _)))
    go_wp2_with fail
    go_ret
    exact ⟨by rw [E.out]; rfl, nq, rfl⟩
def ReadPost (w : World) (o : Option (Tr × List UInt8)) (e : Ending) (w' : World) : Prop :=
  Ext w w' ∧ match o with
  | none => e = .returned (.tuple #[.pointer none, .string (S []), .bool false])
  | some (T, l) => ∃ p, e = .returned (.tuple #[.pointer p, .string (S l), .bool true]) ∧ Rep w' T p
set_option maxHeartbeats 1600000 in
set_option maxRecDepth 100000 in
theorem read_calls (n : Nat) : ∀ (l : List UInt8) (s : ByteArray) (w : World), l.length < n → n < 100000 → s = S l → 
    Calls Tryz.prog 69 #[.string s] w (ReadPost w (rd n l)) := by
  induction n with
  | zero => intro l s w h; omega
  | succ n ih =>
    intro l s w hl hn hs
    cases l with
    | nil =>
      have e0 : (s.toList == []) = true := by rw [hs, S_toList]; rfl
      clear hs
      go_enter Tryz.func69, Tryz.ntmps69
      go_wp2
      go_ret3
      exact ⟨Ext.refl _, rfl⟩
    | cons c l =>
      have e0 : (s.toList == []) = false := by rw [hs, S_toList]; rfl
      have z0 : 0 < s.size := by rw [hs, S_size]; simp
      have z1 : (1 : Int) ≤ s.size := by omega
      have x0 : ∀ h : 0 < s.size, ((s[0]'h).toNat : Int) = (c.toNat : Int) := by subst hs; intro h; rfl
      have Ht : Hid (s.extract 1 s.size = S l) := by subst hs; exact S_tail c l
      by_cases c1 : c = 46
      · have t1 : ((c.toNat : Int) == 46) = true := by subst c1; rfl
        have hR : Hid (rd (n + 1) (c :: l) = some (.leaf, l)) := by subst c1; rfl
        clear hs
        go_enter Tryz.func69, Tryz.ntmps69
        go_wp2
        go_quiet (fail)
        go_wp2
        go_ret3
        rw [hR.out]
        exact ⟨(Ext.refl _).drewN _, none, by rw [← Ht.out]; rfl, rfl⟩
      · have t1 : ((c.toNat : Int) == 46) = false := byte_ne c1
        by_cases c2 : c = 40
        · have t2 : ((c.toNat : Int) != 40) = false := by subst c2; rfl
          have hR : Hid (rd (n + 1) (c :: l) = match rd n l with
              | none => none
              | some (a, l1) => match rd n l1 with
                | some (b, 41 :: l3) => some (.node a b, l3)
                | _ => none) := by subst c2; rfl
          have hl' : l.length < n := by simpa using hl
          have hlen : ∀ T r, rd n l = some (T, r) → r.length < n := fun T r h => Nat.lt_of_le_of_lt (rd_length h) hl'
          clear hs hl
          go_enter Tryz.func69, Tryz.ntmps69
          go_wp2_with fail
          refine (ih l _ _ hl' (by omega) Ht.out).mono ?_
          generalize rd n l = o at *
          rintro e w1 ⟨hx1, hp⟩
          cases o with
          | none =>
            obtain rfl := hp
            go_wp2_with fail
            go_ret3
            rw [hR.out]
            exact ⟨hx1, rfl⟩
          | some ab =>
            obtain ⟨A, l1⟩ := ab
            obtain ⟨p, rfl, hp⟩ := hp
            have hl1 := hlen A l1 rfl
            clear hlen
            go_wp2_with fail
            refine (ih l1 _ _ hl1 (by omega) rfl).mono ?_
            generalize rd n l1 = o at *
            rintro e w2 ⟨hx2, hp2⟩
            cases o with
            | none =>
              obtain rfl := hp2
              go_wp2_with fail
              go_ret3
              rw [hR.out]
              exact ⟨hx1.trans hx2, rfl⟩
            | some ab =>
              obtain ⟨B, l2⟩ := ab
              obtain ⟨q, rfl, hq⟩ := hp2
              cases l2 with
              | nil =>
                have f0 := S_nil
                go_wp2_with fail
                go_ret3
                rw [hR.out]
                exact ⟨hx1.trans hx2, rfl⟩
              | cons d l3 =>
                obtain ⟨f0, z0, z1, x0, Ht⟩ := S_facts d l3
                generalize S (d :: l3) = s2 at *
                by_cases c3 : d = 41
                · have t3 : ((d.toNat : Int) != 41) = false := by subst c3; rfl
                  have HR := Lib.hid (And.intro (hp.ext hx2) (And.intro hq (hx1.trans hx2)))
                  clear hp hq hx1 hx2
                  go_wp2_with fail
                  go_region
                  go_wp2_with fail
                  go_ret3
                  rw [hR.out]
                  subst c3
                  exact ⟨(HR.out.2.2.alloc _).drew, _, by rw [← Ht.out]; rfl, (Rep.made HR.out.1 HR.out.2.1).ext ((Ext.refl _).drew)⟩
                · have t3 : ((d.toNat : Int) != 41) = true := byte_bne c3
                  go_wp2_with fail
                  go_ret3
                  rw [hR.out]
                  have : (match (some (B, d :: l3) : Option (Tr × List UInt8)) with | some (b, 41 :: l3) => some (Tr.node A b, l3) | _ => none) = none := by
                    split
                    · rename_i h; simp at h; exact absurd h.2.1 c3
                    · rfl
                  rw [this]
                  exact ⟨hx1.trans hx2, rfl⟩
        · have t2 : ((c.toNat : Int) != 40) = true := byte_bne c2
          have hR : Hid (rd (n + 1) (c :: l) = none) := by simp [Hid, rd, c1, c2]
          clear hs
          go_enter Tryz.func69, Tryz.ntmps69
          go_wp2
          go_ret3
          rw [hR.out]
          exact ⟨(Ext.refl _), rfl⟩
theorem parse_yes (T : Tr) (w : World) (hT : T.carets ≤ 8) :
    Calls Tryz.prog 46 #[.string (tx T)] w fun e w' => ∃ p, e = .returned (.tuple #[.pointer p, .bool true]) ∧ Rep w' T p ∧ Ext w w' := by
  have z : (tx T).size ≤ 25 := by have := T.txt_length; show T.txt.length ≤ _; omega
  have hz : ((tx T).size : Int) ≤ 25 := by omega
  have hc := Lib.hid (read_calls 26 T.txt (tx T) w (by have := T.txt_length; omega) (by omega) rfl)
  have hr := Lib.hid (rd_txt' T 26 (by have := T.depth_le; omega))
  have hc8 : (T.carets : Int) ≤ 8 := by omega
  have f0 : (S []).toList.isEmpty = true := by rw [S_toList]; rfl
  have b8 : T.carets < 1000000000 := by omega
  clear z hT
  go_enter Tryz.func46, Tryz.ntmps46
  go_wp2_with fail
  refine hc.out.mono ?_
  rw [hr.out]
  rintro e w1 ⟨hx, p, rfl, hp⟩
  have H := Lib.hid (And.intro hx hp)
  clear hx hp
  go_wp2_with fail
  refine (carets_calls T _ _ b8 H.out.2).mono ?_
  rintro e w2 ⟨rfl, n, rfl⟩
  go_wp2_with fail
  go_ret2
  exact ⟨p, rfl, H.out.2.ext ((Ext.refl _).drewN _), H.out.1.drewN _⟩
theorem parse_no (s : ByteArray) (w : World) (hT : ¬ ∃ T, s = tx T ∧ T.carets ≤ 8) :
    Calls Tryz.prog 46 #[.string s] w fun e w' => e = .returned (.tuple #[.pointer none, .bool false]) ∧ Ext w w' := by
  by_cases z : s.size ≤ 25
  · have hz : (s.size : Int) ≤ 25 := by omega
    have hl : s.toList.length ≤ 25 := by have := S_of s; rw [this, S_size] at z; exact z
    have hc := Lib.hid (read_calls 26 s.toList s w (by omega) (by omega) (S_of s))
    have hT' := Lib.hid hT
    clear z hT
    cases hr : rd 26 s.toList with
    | none =>
      have hr' := Lib.hid hr
      clear hr
      go_enter Tryz.func46, Tryz.ntmps46
      go_wp2_with fail
      refine hc.out.mono ?_
      rw [hr'.out]
      rintro e w1 ⟨hx, rfl⟩
      go_wp2_with fail
      go_ret2
      exact ⟨rfl, hx⟩
    | some x =>
      obtain ⟨T, r⟩ := x
      obtain ⟨e1, e2⟩ := rd_some hr
      have hr' := Lib.hid hr
      clear hr
      cases r with
      | cons c r =>
        have f0 : (S (c :: r)).toList.isEmpty = false := by rw [S_toList]; rfl
        clear e1 e2
        go_enter Tryz.func46, Tryz.ntmps46
        go_wp2_with fail
        refine hc.out.mono ?_
        rw [hr'.out]
        rintro e w1 ⟨hx, p, rfl, hp⟩
        go_wp2_with fail
        go_ret2
        exact ⟨rfl, hx⟩
      | nil =>
        have f0 : (S []).toList.isEmpty = true := by rw [S_toList]; rfl
        have hn : 8 < T.carets := by
          apply Nat.lt_of_not_le
          intro h8
          refine hT'.out ⟨T, ?_, h8⟩
          rw [S_of s, e1]; simp [tx]
        have hm : T.carets < 1000000000 := by
          have := T.txt_length
          rw [e1] at hl
          simp at hl
          omega
        have hn' : (8 : Int) < (T.carets : Int) := by omega
        clear e1 e2 hl hn
        go_enter Tryz.func46, Tryz.ntmps46
        go_wp2_with fail
        refine hc.out.mono ?_
        rw [hr'.out]
        rintro e w1 ⟨hx, p, rfl, hp⟩
        have H := Lib.hid (And.intro hx hp)
        clear hx hp
        go_wp2_with fail
        refine (carets_calls T _ _ hm H.out.2).mono ?_
        rintro e w2 ⟨rfl, n, rfl⟩
        go_wp2_with fail
        go_ret2
        exact ⟨rfl, H.out.1.drewN _⟩
  · have hz : (25 : Int) < s.size := by omega
    clear z
    go_enter Tryz.func46, Tryz.ntmps46
    go_wp2_with fail
    go_ret2
    exact ⟨rfl, Ext.refl _⟩
end Go.Proofs.YtdcipaaclpedhaaGreat.N
