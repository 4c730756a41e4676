import Derived.Deep.AppendLies
import Derived.Laws.AppendOwn
import Derived.Laws.AppendOwnNone
import Derived.Laws.MakeOwn
import Derived.Laws.OwnMore
import Derived.Maps.AppendAt
import Derived.Test.YtgnepbogadfinaaXa3
/- A part of the proof: lemmas that later parts use. -/
set_option linter.unusedVariables false
set_option linter.unusedSimpArgs false
namespace Go.Proofs.Ytgnepbogadfinaa.N
open Go.RowKit
def Reads (w : World) (v : Value) (xs : List Value) : Prop :=
  ∃ A c, v = .slice A xs.length c ∧ (A = none → c = 0) ∧ (0 < xs.length → ∃ ad, A = some ad ∧ ∀ j u, xs[j]? = some u → w.cell? (ad.add j) = some u)
def Reads0 (w : World) (v : Value) (xs : List Value) : Prop :=
  ∃ A c, v = .slice A xs.length c ∧ True ∧ (0 < xs.length → ∃ ad, A = some ad ∧ ∀ j u, xs[j]? = some u → w.cell? (ad.add j) = some u)
def Own (w : World) (base : Nat) (e : TypeId) (v : Value) (xs : List Value) : Prop := w.ownsRow base e 1 v xs.length xs
theorem add_plain (g j : Nat) : (⟨g, 0, none⟩ : Addr).add j = ⟨g, j, none⟩ := by unfold Addr.add; split <;> simp_all
theorem Own.nil (w : World) (base : Nat) (e : TypeId) : Own w base e (.slice none 0 0) [] := ⟨by simp, .inl ⟨rfl, rfl⟩⟩
theorem Own.reads {w : World} {base : Nat} {e : TypeId} {v : Value} {xs : List Value} (h : Own w base e v xs) : Reads w v xs := by
  rcases h.2 with ⟨rfl, h0⟩ | ⟨g, cap, cur, rfl, hb, hh, h1, h2, h3, h4⟩
  · exact ⟨none, 0, by rw [h0], fun _ => rfl, fun hp => by omega⟩
  · refine ⟨_, cap, rfl, (fun h => by cases h), fun _ => ⟨_, rfl, fun j u hu => ?_⟩⟩
    have hj : j < xs.length := (List.getElem?_eq_some_iff.1 hu).1
    have : w.cell? ⟨g, j, none⟩ = xs[j]? := World.ownsRow.cellAt (base := base) (e := e) (size := 1) (n := xs.length) (cap := cap) (xs := xs) h j (by omega)
    rw [add_plain, this, hu]
theorem Reads.ext {w w' : World} {v : Value} {xs : List Value} (h : Reads w v xs) (hx : Ext w w') : Reads w' v xs := by
  obtain ⟨A, c, e, h0, h⟩ := h
  exact ⟨A, c, e, h0, fun hp => let ⟨ad, ea, hc⟩ := h hp; ⟨ad, ea, fun j u hu => hx.cell (hc j u hu)⟩⟩
theorem Reads0.ext {w w' : World} {v : Value} {xs : List Value} (h : Reads0 w v xs) (hx : Ext w w') : Reads0 w' v xs := by
  obtain ⟨A, c, e, h0, h⟩ := h
  exact ⟨A, c, e, h0, fun hp => let ⟨ad, ea, hc⟩ := h hp; ⟨ad, ea, fun j u hu => hx.cell (hc j u hu)⟩⟩
theorem Ext.grownBy {w w' : World} (h : Ext w w') (row : Option Nat) : w.grownBy w' row := ⟨h.os, h.tape, h.output, h.size, fun i hi _ => h.block i hi⟩
theorem Own.ext {w w' : World} {base : Nat} {e : TypeId} {v : Value} {xs : List Value} (h : Own w base e v xs) (hx : Ext w w') : Own w' base e v xs :=
  World.ownsRow.kept h (hx.grownBy none) (by cases v.ownBlock <;> simp)
theorem row_ext {w w' : World} {base : Nat} {e : TypeId} {sz n : Nat} {v : Value} {xs : List Value} (h : w.ownsRow base e sz v n xs) (hx : Ext w w') : w'.ownsRow base e sz v n xs :=
  World.ownsRow.kept h (hx.grownBy none) (by cases v.ownBlock <;> simp)
theorem Own.mono {w : World} {base base' : Nat} {e : TypeId} {v : Value} {xs : List Value} (h : Own w base e v xs) (hb : base' ≤ base) : Own w base' e v xs := by
  refine ⟨h.1, ?_⟩
  rcases h.2 with h | ⟨g, cap, cur, e1, h1, h2⟩
  · exact .inl h
  · exact .inr ⟨g, cap, cur, e1, by omega, h2⟩
theorem Own.far {w w' : World} {base : Nat} {e : TypeId} {v : Value} {xs : List Value} {row : Option Nat} (h : Own w base e v xs) (hg : w.grownBy w' row) (hr : ∀ k, row = some k → v.ownBlock ≠ some k) : Own w' base e v xs :=
  World.ownsRow.kept h hg (by
    cases hv : v.ownBlock with
    | none => exact .inl rfl
    | some k => exact .inr fun e => hr k e.symm hv)
theorem Reads.far {w w' : World} {v : Value} {xs : List Value} {row : Option Nat} (h : Reads w v xs) (hg : w.grownBy w' row) (hr : ∀ k, row = some k → v.ownBlock ≠ some k) : Reads w' v xs := by
  obtain ⟨A, c, rfl, h0, h⟩ := h
  refine ⟨A, c, rfl, h0, fun hp => ?_⟩
  obtain ⟨ad, rfl, hc⟩ := h hp
  refine ⟨ad, rfl, fun j u hu => hg.cell (hc j u hu) ?_⟩
  intro e
  have hb : (ad.add j).block = ad.block := by unfold Addr.add; split <;> rfl
  exact hr _ e.symm (by simp [Value.ownBlock, hb])
theorem Own.block {w : World} {base : Nat} {e : TypeId} {v : Value} {xs : List Value} (h : Own w base e v xs) : ∀ k, v.ownBlock = some k → base ≤ k ∧ k < w.heap.size := World.ownsRow.lt h
theorem Own.lit (w : World) (base : Nat) (e : TypeId) (cs : Array Value) (hb : base ≤ w.heap.size) (hm : cs.size ≤ maxLen) : Own (w.alloc (.cells cs e)) base e (.slice (some ⟨w.heap.size, 0, none⟩) cs.size cs.size) cs.toList :=
  World.ownsRow_lit w cs cs.size hb hm (by simp)
theorem Ext.grown {w0 w w' : World} {row : Option Nat} (h : Ext w0 w) (hg : w.grownBy w' row) (hr : ∀ k, row = some k → w0.heap.size ≤ k) : Ext w0 w' := Below.grown h hg h.size hr
theorem Own.typed {w : World} {base : Nat} {e : TypeId} {v : Value} {xs : List Value} (h : Own w base e v xs) : ∀ k, v.ownBlock = some k → ∃ cs fr, w.heap[k]? = some (.cells cs e fr) := by
  intro k hk
  rcases h.2 with ⟨rfl, _⟩ | ⟨g, cap, cur, rfl, hb, hh, _⟩
  · cases hk
  · have : g = k := by simpa [Value.ownBlock] using hk
    subst this
    exact ⟨cur, _, hh⟩
theorem Rep.row {w w' : World} {base : Nat} {e : TypeId} {v : Value} {xs : List Value} {T : Tr} {p : Option Addr} (h : Rep w T p) (ho : Own w base e v xs) (he : e ≠ 88) (hg : w.grownBy w' v.ownBlock) : Rep w' T p :=
  Rep.far hg (fun k hk => by obtain ⟨cs, fr, h⟩ := ho.typed k hk; exact ⟨cs, e, fr, h, he⟩) h
def Reps (w : World) (Ts : List Tr) (ps : List (Option Addr)) : Prop := Ts.length = ps.length ∧ ∀ (k : Nat) (T : Tr) (p : Option Addr), Ts[k]? = some T → ps[k]? = some p → Rep w T p
theorem Reps.ext {w w' : World} {Ts ps} (h : Reps w Ts ps) (hx : Ext w w') : Reps w' Ts ps := ⟨h.1, fun k T p h1 h2 => (h.2 k T p h1 h2).ext hx⟩
theorem Reps.row {w w' : World} {base : Nat} {e : TypeId} {v : Value} {xs : List Value} {Ts ps} (h : Reps w Ts ps) (ho : Own w base e v xs) (he : e ≠ 88) (hg : w.grownBy w' v.ownBlock) : Reps w' Ts ps :=
  ⟨h.1, fun k T p h1 h2 => (h.2 k T p h1 h2).row ho he hg⟩
theorem Reps.nil (w : World) : Reps w [] [] := ⟨rfl, fun k T p h => by simp at h⟩
theorem Reps.snoc {w : World} {Ts ps T p} (h : Reps w Ts ps) (hr : Rep w T p) : Reps w (Ts ++ [T]) (ps ++ [p]) := by
  refine ⟨by simp [h.1], fun k A q h1 h2 => ?_⟩
  rcases Nat.lt_trichotomy k Ts.length with hk | hk | hk
  · rw [List.getElem?_append_left hk] at h1
    rw [List.getElem?_append_left (by rw [← h.1]; exact hk)] at h2
    exact h.2 k A q h1 h2
  · subst hk
    rw [List.getElem?_append_right (Nat.le_refl _), Nat.sub_self] at h1
    rw [List.getElem?_append_right (by rw [← h.1]; exact Nat.le_refl _), ← h.1, Nat.sub_self] at h2
    simp at h1 h2
    subst h1; subst h2; exact hr
  · rw [List.getElem?_eq_none (by simp; omega)] at h1; cases h1
theorem Reps.append {w : World} {Ts ps Us qs} (h : Reps w Ts ps) (k : Reps w Us qs) : Reps w (Ts ++ Us) (ps ++ qs) := by
  refine ⟨by simp [h.1, k.1], fun i A q h1 h2 => ?_⟩
  rcases Nat.lt_or_ge i Ts.length with hi | hi
  · rw [List.getElem?_append_left hi] at h1
    rw [List.getElem?_append_left (by rw [← h.1]; exact hi)] at h2
    exact h.2 i A q h1 h2
  · rw [List.getElem?_append_right hi] at h1
    rw [List.getElem?_append_right (by rw [← h.1]; exact hi), ← h.1] at h2
    exact k.2 _ A q h1 h2
theorem Own.lo {w : World} {base : Nat} {e : TypeId} {v : Value} {xs : List Value} (h : Own w base e v xs) : ∀ k, v.ownBlock = some k → base ≤ k := fun k hk => (h.block k hk).1
theorem grownBy_refl (w : World) (row : Option Nat) : w.grownBy w row := ⟨rfl, rfl, rfl, Nat.le_refl _, fun _ _ _ => rfl⟩
section
variable {P : Program}
theorem run_app {w : World} (base : Nat) (t ty e : TypeId) (z : Value) (bytes : Nat) (ht : P.underlying t = some (.slice e)) (hinfo : (P.info? e).map (fun i => (i.zero, i.size, i.bytes)) = some (some z, 1, bytes)) (hz : z.cells.size = 1) (hb0 : 0 < bytes)
    (v s : Value) (xs news : List Value) (hown : Own w base e v xs) (hs : Reads w s news) (h1 : ∀ u ∈ news, u.oneCell' = true) (hl : (xs.length + news.length) * bytes ≤ 140737488355328) (hbase : base ≤ w.heap.size) :
    ∃ v' w', (Builtin.append_ #[t, t] ty #[v, s]).run P w = .ok v' w' ∧ Own w' base e v' (xs ++ news) ∧ w.grownBy w' v.ownBlock ∧ (v'.ownBlock = v.ownBlock ∨ v'.ownBlock = some w.heap.size) := by
  obtain ⟨i, hi, hzz⟩ := Option.map_eq_some_iff.1 hinfo
  simp only [Prod.mk.injEq] at hzz
  obtain ⟨hz0, hz1, hz2⟩ := hzz
  have hlen : xs.length + news.length ≤ 140737488355328 := Nat.le_trans (Nat.le_mul_of_pos_right _ hb0) hl
  obtain ⟨A, c, rfl, hnil, hc⟩ := hs
  rcases Nat.eq_zero_or_pos news.length with h0 | h0
  · obtain rfl := List.eq_nil_of_length_eq_zero h0
    cases A with
    | none =>
      obtain rfl := hnil rfl
      exact ⟨v, w, run_append_owned_none (P := P) (w := w) base t ty e i 1 ht hi v xs.length xs hown, by simpa using hown, grownBy_refl w _, .inl rfl⟩
    | some ad =>
      obtain ⟨v', w', hr, h2, h3, _, h5⟩ := run_append_own_at (P := P) w base t ty e i z 1 bytes ht hi hz0 hz1 hz2 hz (by omega) v xs.length xs hown ad 0 c [] (by simp) (by simp) (by simp) (by simp only [maxLen]; omega) hl hbase
      exact ⟨v', w', hr, by simpa [Own] using h2, h3, h5⟩
  · obtain ⟨ad, rfl, hc2⟩ := hc h0
    obtain ⟨v', w', hr, h2, h3, _, h5⟩ := run_append_own_at (P := P) w base t ty e i z 1 bytes ht hi hz0 hz1 hz2 hz (by omega) v xs.length xs hown ad news.length c news (by simp) hc2 h1 (by simp only [maxLen]; omega) hl hbase
    exact ⟨v', w', hr, by simpa [Own] using h2, h3, h5⟩
theorem wp_app {w : World} {o : Oper} {a : Act} {K : Act → World → Prop} {Q : Exit → Act → World → Prop} (x y : Operand) (t : TypeId)
    (ho : o.op = .call { callee := .builtin .append, args := #[x, y], argTypes := #[t, t] })
    (base : Nat) (e : TypeId) (z : Value) (bytes : Nat) (ht : P.underlying t = some (.slice e)) (hinfo : (P.info? e).map (fun i => (i.zero, i.size, i.bytes)) = some (some z, 1, bytes)) (hz : z.cells.size = 1) (hb0 : 0 < bytes)
    (v s : Value) (xs news : List Value) (hx : a.eval x = v) (hy : a.eval y = s) (hown : Own w base e v xs) (hs : Reads w s news) (h1 : ∀ u ∈ news, u.oneCell' = true) (hl : (xs.length + news.length) * bytes ≤ 140737488355328) (hbase : base ≤ w.heap.size)
    (h : ∀ v' w', Own w' base e v' (xs ++ news) → w.grownBy w' v.ownBlock → (v'.ownBlock = v.ownBlock ∨ v'.ownBlock = some w.heap.size) → K (a.put o.dst v') w') : o.wp P a w K Q := by
  obtain ⟨v', w', hr, h2, h3, h4⟩ := run_app (P := P) (w := w) base t o.type e z bytes ht hinfo hz hb0 v s xs news hown hs h1 hl hbase
  unfold Oper.wp execOp
  simp only [ho, resolve, invoke, builtin, Sem.run_bind, Sem.run_pure, Result.andThen_ok, List.map_toArray, List.map_cons, List.map_nil, hx, hy, hr]
  exact h v' w' h2 h3 h4
theorem wpList_app {w : World} {ops : Array Oper} {rest : List Oper} {o : Oper} {a : Act} {Q : Exit → Act → World → Prop} (hgd : o.guard = none) (x y : Operand) (t : TypeId)
    (ho : o.op = .call { callee := .builtin .append, args := #[x, y], argTypes := #[t, t] })
    (base : Nat) (e : TypeId) (z : Value) (bytes : Nat) (ht : P.underlying t = some (.slice e)) (hinfo : (P.info? e).map (fun i => (i.zero, i.size, i.bytes)) = some (some z, 1, bytes)) (hz : z.cells.size = 1) (hb0 : 0 < bytes)
    (v s : Value) (xs news : List Value) (hx : a.eval x = v) (hy : a.eval y = s) (hown : Own w base e v xs) (hs : Reads w s news) (h1 : ∀ u ∈ news, u.oneCell' = true) (hl : (xs.length + news.length) * bytes ≤ 140737488355328) (hbase : base ≤ w.heap.size)
    (h : ∀ v' w', Own w' base e v' (xs ++ news) → w.grownBy w' v.ownBlock → (v'.ownBlock = v.ownBlock ∨ v'.ownBlock = some w.heap.size) → wpList P ops Q rest (a.put o.dst v') w') : wpList P ops Q (o :: rest) a w :=
  wpList_plain hgd fun _ hK => wp_app x y t ho base e z bytes ht hinfo hz hb0 v s xs news hx hy hown hs h1 hl hbase fun v' w' h2 h3 h4 => hK _ _ (h v' w' h2 h3 h4)
theorem step_app {w : World} {ops : Array Oper} {o : Oper} {a : Act} {K : Act → World → Prop} {Q : Exit → Act → World → Prop} {E : Prop} (hgd : o.guard = none) (x y : Operand) (t : TypeId)
    (ho : o.op = .call { callee := .builtin .append, args := #[x, y], argTypes := #[t, t] })
    (base : Nat) (e : TypeId) (z : Value) (bytes : Nat) (ht : P.underlying t = some (.slice e)) (hinfo : (P.info? e).map (fun i => (i.zero, i.size, i.bytes)) = some (some z, 1, bytes)) (hz : z.cells.size = 1) (hb0 : 0 < bytes)
    (v s : Value) (xs news : List Value) (hx : a.eval x = v) (hy : a.eval y = s) (hown : Own w base e v xs) (hs : Reads w s news) (h1 : ∀ u ∈ news, u.oneCell' = true) (hl : (xs.length + news.length) * bytes ≤ 140737488355328) (hbase : base ≤ w.heap.size)
    (h : ∀ v' w', Own w' base e v' (xs ++ news) → w.grownBy w' v.ownBlock → (v'.ownBlock = v.ownBlock ∨ v'.ownBlock = some w.heap.size) → K (a.put o.dst v') w') :
    if Region.wanted o (yielded ops a.tmps) = true then Oper.wp P o a w K Q else E := by
  have hw : Region.wanted o (yielded ops a.tmps) = true := by simp [Region.wanted, hgd]
  rw [if_pos hw]
  exact wp_app x y t ho base e z bytes ht hinfo hz hb0 v s xs news hx hy hown hs h1 hl hbase h
end
end Go.Proofs.Ytgnepbogadfinaa.N
namespace Go.Proofs.Ytgnepbogadfinaa.N
open Go.RowKit
set_option maxHeartbeats 1600000 in
set_option maxRecDepth 100000 in
theorem carets_calls (T : Tr) : ∀ (p : Option Addr) (w : World), T.carets < 1000000000 → Rep w T p →
    Calls Try.prog 60 #[.pointer p] w fun e w' => e = .returned (.int .i64 T.carets) ∧ ∃ n, w' = w.drewN n := by
  induction T with
  | leaf =>
    rintro p w _ rfl
    go_enter Try.func60, Try.ntmps60
    go_wp2
    go_ret
    exact ⟨rfl, 0, rfl⟩
  | node l r ihl ihr =>
    rintro p w hb hr
    have op := hr.open
    clear hr
    obtain ⟨b, pl, pr, rfl, h0, h1, hl, hr⟩ := op
    have H : Hid (_ ∧ _ ∧ _) := Lib.hid (And.intro hl (And.intro hr hb))
    have hbl : 0 ≤ (l.carets : Int) ∧ (l.carets : Int) < 1000000000 := by simp only [Tr.carets] at hb; omega
    have hbr : 0 ≤ (r.carets : Int) ∧ (r.carets : Int) < 1000000000 := by simp only [Tr.carets] at hb; omega
    have hbs : (l.carets : Int) + (r.carets : Int) < 1000000000 := by simp only [Tr.carets] at hb; omega
    clear hl hr hb
    go_enter Try.func60, Try.ntmps60
    go_wp2_with fail
    go_quiet (first
      | (go_at_call_of 60 (Value.pointer pl); refine Calls.quiet_of (ihl _ _ (by omega) ?_); exact H.out.1.ext ((Ext.refl _).drewN _))
      | (go_at_call_of 60 (Value.pointer pr); refine Calls.quiet_of (ihr _ _ (by omega) ?_); exact H.out.2.1.ext ((Ext.refl _).drewN _)))
    go_wp2_with fail
    go_ret
    exact ⟨by simp [Tr.carets], nq, rfl⟩
set_option maxHeartbeats 1600000 in
set_option maxRecDepth 100000 in
theorem leaves_calls (T : Tr) (p : Option Addr) (w : World) (hb : T.carets < 1000000000) (hr : Rep w T p) :
    Calls Try.prog 55 #[.pointer p] w fun e w' => e = .returned (.int .i64 (T.carets + 1)) ∧ ∃ n, w' = w.drewN n := by
  have hb' : 0 ≤ (T.carets : Int) ∧ (T.carets : Int) < 1000000000 := by omega
  have H := Lib.hid hr
  clear hr hb
  go_enter Try.func55, Try.ntmps55
  go_wp2_with fail
  refine (carets_calls T _ _ (by omega) H.out).mono ?_
  rintro e w1 ⟨rfl, n, rfl⟩
  go_wp2_with fail
  go_ret
  exact ⟨rfl, n, rfl⟩
set_option maxHeartbeats 1600000 in
set_option maxRecDepth 100000 in
theorem text_calls (T : Tr) : ∀ (p : Option Addr) (w : World), T.carets < 1000000000 → Rep w T p →
    Calls Try.prog 73 #[.pointer p] w fun e w' => e = .returned (.string (tx T)) ∧ ∃ n, w' = w.drewN n := by
  induction T with
  | leaf =>
    rintro p w _ rfl
    go_enter Try.func73, Try.ntmps73
    go_wp2
    go_ret
    exact ⟨rfl, 0, rfl⟩
  | node l r ihl ihr =>
    rintro p w hb hr
    have op := hr.open
    clear hr
    obtain ⟨b, pl, pr, rfl, h0, h1, hl, hr⟩ := op
    have H : Hid (_ ∧ _ ∧ _) := Lib.hid (And.intro hl (And.intro hr hb))
    have zl : (tx l).size ≤ 3000000000 := by have := l.txt_length; simp only [Tr.carets] at hb; show l.txt.length ≤ _; omega
    have zr : (tx r).size ≤ 3000000000 := by have := r.txt_length; simp only [Tr.carets] at hb; show r.txt.length ≤ _; omega
    have bl : l.carets < 1000000000 := by simp only [Tr.carets] at hb; omega
    have br : r.carets < 1000000000 := by simp only [Tr.carets] at hb; omega
    have E := Lib.hid (tx_node l r)
    clear hl hr hb
    go_enter Try.func73, Try.ntmps73
    go_wp2_with fail
    go_quiet (first
      | (go_at_call_of 73 (Value.pointer pl); refine Calls.quiet_of (ihl _ _ bl ?_); exact H.out.1.ext ((Ext.refl _).drewN _))
      | (go_at_call_of 73 (Value.pointer pr); refine Calls.quiet_of (ihr _ _ br ?_); exact H.out.2.1.ext ((Ext.refl _).drewN _)))
    go_wp2_with fail
    go_ret
    exact ⟨by rw [E.out]; rfl, nq, rfl⟩
def ReadPost (w : World) (o : Option (Tr × List UInt8)) (e : Ending) (w' : World) : Prop :=
  Ext w w' ∧ match o with
  | none => e = .returned (.tuple #[.pointer none, .string (S []), .bool false])
  | some (T, l) => ∃ p, e = .returned (.tuple #[.pointer p, .string (S l), .bool true]) ∧ Rep w' T p
set_option maxHeartbeats 1600000 in
set_option maxRecDepth 100000 in
theorem read_calls (n : Nat) : ∀ (l : List UInt8) (s : ByteArray) (w : World), l.length < n → n < 100000 → s = S l → 
    Calls Try.prog 98 #[.string s] w (ReadPost w (rd n l)) := by
  induction n with
  | zero => intro l s w h; omega
  | succ n ih =>
    intro l s w hl hn hs
    cases l with
    | nil =>
      have e0 : (s.toList == []) = true := by rw [hs, S_toList]; rfl
      clear hs
      go_enter Try.func98, Try.ntmps98
      go_wp2
      go_ret3
      exact ⟨Ext.refl _, rfl⟩
    | cons c l =>
      have e0 : (s.toList == []) = false := by rw [hs, S_toList]; rfl
      have z0 : 0 < s.size := by rw [hs, S_size]; simp
      have z1 : (1 : Int) ≤ s.size := by omega
      have x0 : ∀ h : 0 < s.size, ((s[0]'h).toNat : Int) = (c.toNat : Int) := by subst hs; intro h; rfl
      have Ht : Hid (s.extract 1 s.size = S l) := by subst hs; exact S_tail c l
      by_cases c1 : c = 46
      · have t1 : ((c.toNat : Int) == 46) = true := by subst c1; rfl
        have hR : Hid (rd (n + 1) (c :: l) = some (.leaf, l)) := by subst c1; rfl
        clear hs
        go_enter Try.func98, Try.ntmps98
        go_wp2
        go_quiet (fail)
        go_wp2
        go_ret3
        rw [hR.out]
        exact ⟨(Ext.refl _).drewN _, none, by rw [← Ht.out]; rfl, rfl⟩
      · have t1 : ((c.toNat : Int) == 46) = false := byte_ne c1
        by_cases c2 : c = 40
        · have t2 : ((c.toNat : Int) != 40) = false := by subst c2; rfl
          have hR : Hid (rd (n + 1) (c :: l) = match rd n l with
              | none => none
              | some (a, l1) => match rd n l1 with
                | some (b, 41 :: l3) => some (.node a b, l3)
                | _ => none) := by subst c2; rfl
          have hl' : l.length < n := by simpa using hl
          have hlen : ∀ T r, rd n l = some (T, r) → r.length < n := fun T r h => Nat.lt_of_le_of_lt (rd_length h) hl'
          clear hs hl
          go_enter Try.func98, Try.ntmps98
          go_wp2_with fail
          refine (ih l _ _ hl' (by omega) Ht.out).mono ?_
          generalize rd n l = o at *
          rintro e w1 ⟨hx1, hp⟩
          cases o with
          | none =>
            obtain rfl := hp
            go_wp2_with fail
            go_ret3
            rw [hR.out]
            exact ⟨hx1, rfl⟩
          | some ab =>
            obtain ⟨A, l1⟩ := ab
            obtain ⟨p, rfl, hp⟩ := hp
            have hl1 := hlen A l1 rfl
            clear hlen
            go_wp2_with fail
            refine (ih l1 _ _ hl1 (by omega) rfl).mono ?_
            generalize rd n l1 = o at *
            rintro e w2 ⟨hx2, hp2⟩
            cases o with
            | none =>
              obtain rfl := hp2
              go_wp2_with fail
              go_ret3
              rw [hR.out]
              exact ⟨hx1.trans hx2, rfl⟩
            | some ab =>
              obtain ⟨B, l2⟩ := ab
              obtain ⟨q, rfl, hq⟩ := hp2
              cases l2 with
              | nil =>
                have f0 := S_nil
                go_wp2_with fail
                go_ret3
                rw [hR.out]
                exact ⟨hx1.trans hx2, rfl⟩
              | cons d l3 =>
                obtain ⟨f0, z0, z1, x0, Ht⟩ := S_facts d l3
                generalize S (d :: l3) = s2 at *
                by_cases c3 : d = 41
                · have t3 : ((d.toNat : Int) != 41) = false := by subst c3; rfl
                  have HR := Lib.hid (And.intro (hp.ext hx2) (And.intro hq (hx1.trans hx2)))
                  clear hp hq hx1 hx2
                  go_wp2_with fail
                  go_region
                  go_wp2_with fail
                  go_ret3
                  rw [hR.out]
                  subst c3
                  exact ⟨(HR.out.2.2.alloc _).drew, _, by rw [← Ht.out]; rfl, (Rep.made HR.out.1 HR.out.2.1).ext ((Ext.refl _).drew)⟩
                · have t3 : ((d.toNat : Int) != 41) = true := byte_bne c3
                  go_wp2_with fail
                  go_ret3
                  rw [hR.out]
                  have : (match (some (B, d :: l3) : Option (Tr × List UInt8)) with | some (b, 41 :: l3) => some (Tr.node A b, l3) | _ => none) = none := by
                    split
                    · rename_i h; simp at h; exact absurd h.2.1 c3
                    · rfl
                  rw [this]
                  exact ⟨hx1.trans hx2, rfl⟩
        · have t2 : ((c.toNat : Int) != 40) = true := byte_bne c2
          have hR : Hid (rd (n + 1) (c :: l) = none) := by simp [Hid, rd, c1, c2]
          clear hs
          go_enter Try.func98, Try.ntmps98
          go_wp2
          go_ret3
          rw [hR.out]
          exact ⟨(Ext.refl _), rfl⟩
theorem parse_yes (T : Tr) (w : World) (hT : T.carets ≤ 8) :
    Calls Try.prog 67 #[.string (tx T)] w fun e w' => ∃ p, e = .returned (.tuple #[.pointer p, .bool true]) ∧ Rep w' T p ∧ Ext w w' := by
  have z : (tx T).size ≤ 25 := by have := T.txt_length; show T.txt.length ≤ _; omega
  have hz : ((tx T).size : Int) ≤ 25 := by omega
  have hc := Lib.hid (read_calls 26 T.txt (tx T) w (by have := T.txt_length; omega) (by omega) rfl)
  have hr := Lib.hid (rd_txt' T 26 (by have := T.depth_le; omega))
  have hc8 : (T.carets : Int) ≤ 8 := by omega
  have f0 : (S []).toList.isEmpty = true := by rw [S_toList]; rfl
  have b8 : T.carets < 1000000000 := by omega
  clear z hT
  go_enter Try.func67, Try.ntmps67
  go_wp2_with fail
  refine hc.out.mono ?_
  rw [hr.out]
  rintro e w1 ⟨hx, p, rfl, hp⟩
  have H := Lib.hid (And.intro hx hp)
  clear hx hp
  go_wp2_with fail
  refine (carets_calls T _ _ b8 H.out.2).mono ?_
  rintro e w2 ⟨rfl, n, rfl⟩
  go_wp2_with fail
  go_ret2
  exact ⟨p, rfl, H.out.2.ext ((Ext.refl _).drewN _), H.out.1.drewN _⟩
theorem parse_no (s : ByteArray) (w : World) (hT : ¬ ∃ T, s = tx T ∧ T.carets ≤ 8) :
    Calls Try.prog 67 #[.string s] w fun e w' => e = .returned (.tuple #[.pointer none, .bool false]) ∧ Ext w w' := by
  by_cases z : s.size ≤ 25
  · have hz : (s.size : Int) ≤ 25 := by omega
    have hl : s.toList.length ≤ 25 := by have := S_of s; rw [this, S_size] at z; exact z
    have hc := Lib.hid (read_calls 26 s.toList s w (by omega) (by omega) (S_of s))
    have hT' := Lib.hid hT
    clear z hT
    cases hr : rd 26 s.toList with
    | none =>
      have hr' := Lib.hid hr
      clear hr
      go_enter Try.func67, Try.ntmps67
      go_wp2_with fail
      refine hc.out.mono ?_
      rw [hr'.out]
      rintro e w1 ⟨hx, rfl⟩
      go_wp2_with fail
      go_ret2
      exact ⟨rfl, hx⟩
    | some x =>
      obtain ⟨T, r⟩ := x
      obtain ⟨e1, e2⟩ := rd_some hr
      have hr' := Lib.hid hr
      clear hr
      cases r with
      | cons c r =>
        have f0 : (S (c :: r)).toList.isEmpty = false := by rw [S_toList]; rfl
        clear e1 e2
        go_enter Try.func67, Try.ntmps67
        go_wp2_with fail
        refine hc.out.mono ?_
        rw [hr'.out]
        rintro e w1 ⟨hx, p, rfl, hp⟩
        go_wp2_with fail
        go_ret2
        exact ⟨rfl, hx⟩
      | nil =>
        have f0 : (S []).toList.isEmpty = true := by rw [S_toList]; rfl
        have hn : 8 < T.carets := by
          apply Nat.lt_of_not_le
          intro h8
          refine hT'.out ⟨T, ?_, h8⟩
          rw [S_of s, e1]; simp [tx]
        have hm : T.carets < 1000000000 := by
          have := T.txt_length
          rw [e1] at hl
          simp at hl
          omega
        have hn' : (8 : Int) < (T.carets : Int) := by omega
        clear e1 e2 hl hn
        go_enter Try.func67, Try.ntmps67
        go_wp2_with fail
        refine hc.out.mono ?_
        rw [hr'.out]
        rintro e w1 ⟨hx, p, rfl, hp⟩
        have H := Lib.hid (And.intro hx hp)
        clear hx hp
        go_wp2_with fail
        refine (carets_calls T _ _ hm H.out.2).mono ?_
        rintro e w2 ⟨rfl, n, rfl⟩
        go_wp2_with fail
        go_ret2
        exact ⟨rfl, H.out.1.drewN _⟩
  · have hz : (25 : Int) < s.size := by omega
    clear z
    go_enter Try.func67, Try.ntmps67
    go_wp2_with fail
    go_ret2
    exact ⟨rfl, Ext.refl _⟩
end Go.Proofs.Ytgnepbogadfinaa.N
namespace Go.Proofs.Ytgnepbogadfinaa.N
def Tr.grown (h : Nat → Tr) : Tr → Nat → Tr
  | .leaf, k => h k
  | .node l r, k => .node (l.grown h k) (r.grown h (k + (l.carets + 1)))
def graft (T : Tr) (k : Nat) (O : Tr) : Tr := T.grown (fun i => if i = k then O else .leaf) 0
def comb : Nat → Tr
  | 0 => .leaf
  | n + 1 => .node .leaf (comb n)
theorem comb_carets : ∀ n, (comb n).carets = n
  | 0 => rfl
  | n + 1 => by simp only [comb, Tr.carets, comb_carets n]; omega
theorem grown_same (h : Nat → Tr) : ∀ (T : Tr) (k : Nat), (∀ i, k ≤ i → i < k + (T.carets + 1) → h i = .leaf) → T.grown h k = T
  | .leaf, k, hh => hh k (Nat.le_refl _) (by simp [Tr.carets])
  | .node l r, k, hh => by
    simp only [Tr.grown]
    rw [grown_same h l k (fun i h1 h2 => hh i h1 (by simp only [Tr.carets]; omega)), grown_same h r _ (fun i h1 h2 => hh i (by omega) (by simp only [Tr.carets]; omega))]
theorem graft_txt (O : Tr) (n : Nat) : ∀ (T : Tr) (k : Nat), k ≤ n → n < k + (T.carets + 1) → ∃ a b, T.txt = a ++ 46 :: b ∧ (T.grown (fun i => if i = n then O else .leaf) k).txt = a ++ (O.txt ++ b) ∧ k + dots a = n
  | .leaf, k, h1, h2 => by
    have : k = n := by simp only [Tr.carets] at h2; omega
    subst this
    exact ⟨[], [], rfl, by simp [Tr.grown], rfl⟩
  | .node l r, k, h1, h2 => by
    by_cases hl : n < k + (l.carets + 1)
    · obtain ⟨a, b, e1, e2, e3⟩ := graft_txt O n l k h1 hl
      have e4 : r.grown (fun i => if i = n then O else .leaf) (k + (l.carets + 1)) = r := grown_same _ r _ (fun i g1 g2 => if_neg (by omega))
      refine ⟨40 :: a, b ++ (r.txt ++ [41]), ?_, ?_, ?_⟩
      · show 40 :: (l.txt ++ (r.txt ++ [41])) = _
        rw [e1]; simp
      · simp only [Tr.grown, e4]
        show 40 :: ((l.grown _ k).txt ++ (r.txt ++ [41])) = _
        rw [e2]; simp
      · simp only [dots, List.countP_cons] at e3 ⊢
        simp; omega
    · obtain ⟨a, b, e1, e2, e3⟩ := graft_txt O n r (k + (l.carets + 1)) (by omega) (by simp only [Tr.carets] at h2; omega)
      have e4 : l.grown (fun i => if i = n then O else .leaf) k = l := grown_same _ l _ (fun i g1 g2 => if_neg (by omega))
      refine ⟨40 :: (l.txt ++ a), b ++ [41], ?_, ?_, ?_⟩
      · show 40 :: (l.txt ++ (r.txt ++ [41])) = _
        rw [e1]; simp
      · simp only [Tr.grown, e4]
        show 40 :: (l.txt ++ ((r.grown _ _).txt ++ [41])) = _
        rw [e2]; simp
      · have hd := dots_txt l
        simp only [dots] at e3 hd
        simp only [dots, List.countP_cons, List.countP_append, hd]
        simp; omega
end Go.Proofs.Ytgnepbogadfinaa.N
namespace Go.Proofs.Ytgnepbogadfinaa.N
theorem both_nil {A B : Tr} : bothT A B = [] ↔ ∀ k, k ∈ expo A 0 → k ∈ expo B 0 → False := by
  unfold bothT
  rw [List.filter_eq_nil_iff]
  constructor
  · intro h k h1 h2; exact h k h1 (by simpa using h2)
  · intro h k h1 h2; exact h k h1 (by simpa using h2)
def join : Tr → Tr → Tr
  | .leaf, b => b
  | .node l r, .leaf => .node l r
  | .node l r, .node a b => .node (join l a) (join r b)
def Part : Tr → Tr → Prop
  | .leaf, _ => True
  | .node _ _, .leaf => False
  | .node l r, .node a b => Part l a ∧ Part r b
theorem part_refl : ∀ T : Tr, Part T T
  | .leaf => trivial
  | .node l r => ⟨part_refl l, part_refl r⟩
theorem part_join_l : ∀ a b : Tr, Part a (join a b)
  | .leaf, b => trivial
  | .node l r, .leaf => part_refl (.node l r)
  | .node l r, .node a b => ⟨part_join_l l a, part_join_l r b⟩
theorem part_join_r : ∀ a b : Tr, Part b (join a b)
  | .leaf, b => part_refl b
  | .node l r, .leaf => trivial
  | .node l r, .node a b => ⟨part_join_r l a, part_join_r r b⟩
theorem join_carets : ∀ a b : Tr, (join a b).carets ≤ a.carets + b.carets
  | .leaf, b => by simp only [join, Tr.carets]; omega
  | .node l r, .leaf => by simp only [join, Tr.carets]; omega
  | .node l r, .node a b => by have := join_carets l a; have := join_carets r b; simp only [join, Tr.carets]; omega
def partsT : Tr → Tr → List Tr
  | .leaf, w => [w]
  | .node _ _, .leaf => []
  | .node l r, .node a b => partsT l a ++ partsT r b
theorem parts_length : ∀ t w : Tr, Part t w → (partsT t w).length = t.carets + 1
  | .leaf, w, _ => rfl
  | .node _ _, .leaf, h => h.elim
  | .node l r, .node a b, h => by simp only [partsT, List.length_append, parts_length l a h.1, parts_length r b h.2, Tr.carets]; omega
def sumc (L : List Tr) : Nat := (L.map Tr.carets).sum
theorem sumc_append (a b : List Tr) : sumc (a ++ b) = sumc a + sumc b := by simp [sumc]
theorem sumc_cons (a : Tr) (b : List Tr) : sumc (a :: b) = a.carets + sumc b := by simp [sumc]
theorem parts_sum : ∀ t w : Tr, Part t w → t.carets + sumc (partsT t w) = w.carets
  | .leaf, w, _ => by simp [partsT, sumc, Tr.carets]
  | .node _ _, .leaf, h => h.elim
  | .node l r, .node a b, h => by have := parts_sum l a h.1; have := parts_sum r b h.2; simp only [partsT, sumc_append, Tr.carets]; omega
def fill (T : Tr) (L : List Tr) : Tr := T.grown (fun i => L.getD i .leaf) 0
theorem grown_sum (L : List Tr) : ∀ (T : Tr) (k : Nat), k + T.carets < L.length → (T.grown (fun i => L.getD i .leaf) k).carets = T.carets + sumc ((L.drop k).take (T.carets + 1))
  | .leaf, k, h => by
    simp only [Tr.carets] at h
    rw [List.drop_eq_getElem_cons (by omega)]
    simp only [Tr.grown, Tr.carets, List.take_succ_cons, List.take_zero, sumc_cons]
    rw [List.getD_eq_getElem?_getD, List.getElem?_eq_getElem (by omega)]
    simp [sumc]
  | .node l r, k, h => by
    simp only [Tr.carets] at h
    have h1 := grown_sum L l k (by omega)
    have h2 := grown_sum L r (k + (l.carets + 1)) (by omega)
    have e : (Tr.node l r).carets + 1 = (l.carets + 1) + (r.carets + 1) := by simp only [Tr.carets]; omega
    rw [e, List.take_add, sumc_append, List.drop_drop]
    simp only [Tr.grown, Tr.carets]
    omega
theorem fill_carets (T : Tr) (L : List Tr) (h : L.length = T.carets + 1) : (fill T L).carets = T.carets + sumc L := by
  unfold fill
  rw [grown_sum L T 0 (by omega), List.drop_zero, List.take_of_length_le (by omega)]
def addrs : Tr → List UInt8 → List (List UInt8)
  | .leaf, a => [a]
  | .node l r, a => addrs l (a ++ [48]) ++ addrs r (a ++ [49])
theorem addrs_length : ∀ (T : Tr) (a : List UInt8), (addrs T a).length = T.carets + 1
  | .leaf, _ => rfl
  | .node l r, a => by simp only [addrs, List.length_append, addrs_length l, addrs_length r, Tr.carets]; omega
theorem addrs_depth : ∀ (T : Tr) (a x : List UInt8), x ∈ addrs T a → x.length ≤ a.length + T.depth
  | .leaf, a, x, h => by simp [addrs] at h; subst h; simp [Tr.depth]
  | .node l r, a, x, h => by
    simp only [addrs, List.mem_append] at h
    simp only [Tr.depth]
    rcases h with h | h
    · have := addrs_depth l _ x h; simp at this; omega
    · have := addrs_depth r _ x h; simp at this; omega
def mul0 (p q : Tr × Tr) : Tr × Tr := (fill p.1 (partsT p.2 (join p.2 q.1)), fill q.2 (partsT q.1 (join p.2 q.1)))
def mul (p q : Tr × Tr) : Tr × Tr := red (mul0 p q)
theorem mul0_carets {p q : Tr × Tr} (hp : p.1.carets = p.2.carets) (hq : q.1.carets = q.2.carets) : (mul0 p q).1.carets = (join p.2 q.1).carets ∧ (mul0 p q).2.carets = (join p.2 q.1).carets := by
  have h1 := part_join_l p.2 q.1
  have h2 := part_join_r p.2 q.1
  have l1 := parts_length _ _ h1
  have l2 := parts_length _ _ h2
  have s1 := parts_sum _ _ h1
  have s2 := parts_sum _ _ h2
  unfold mul0
  simp only
  rw [fill_carets _ _ (by omega), fill_carets _ _ (by omega)]
  omega
theorem mul_carets {p q : Tr × Tr} (hp : p.1.carets = p.2.carets) (hq : q.1.carets = q.2.carets) : (mul p q).1.carets = (mul p q).2.carets ∧ (mul p q).2.carets ≤ p.2.carets + q.1.carets := by
  obtain ⟨h1, h2⟩ := mul0_carets hp hq
  have h3 := red_same (p := mul0 p q) (by rw [h1, h2])
  have h4 := red_le (mul0 p q)
  have h5 := join_carets p.2 q.1
  unfold mul
  exact ⟨h3, by omega⟩
end Go.Proofs.Ytgnepbogadfinaa.N
namespace Go.Proofs.Ytgnepbogadfinaa.N
open Go.RowKit
theorem infoStr : (Try.prog.info? 9).map (fun i => (i.zero, i.size, i.bytes)) = some (some (.string ⟨#[]⟩), 1, 16) := by kernel_rfl
def sls (xs : List (List UInt8)) : List Value := xs.map fun s => .string (S s)
theorem sls_length (xs : List (List UInt8)) : (sls xs).length = xs.length := by simp [sls]
theorem sls_append (xs ys : List (List UInt8)) : sls xs ++ sls ys = sls (xs ++ ys) := by simp [sls]
theorem sls_one (xs : List (List UInt8)) : ∀ u ∈ sls xs, u.oneCell' = true := by
  intro u hu; obtain ⟨s, _, rfl⟩ := List.mem_map.1 hu; rfl
def GivesS (w : World) (xs : List (List UInt8)) (e : Ending) (w' : World) : Prop := ∃ v, e = .returned v ∧ Own w' w.heap.size 9 v (sls xs) ∧ Ext w w'
theorem sls_get (xs : List (List UInt8)) (k : Nat) (h : k < xs.length) : (sls xs)[k]? = some (.string (S xs[k])) := by simp [sls, List.getElem?_eq_getElem h]
end Go.Proofs.Ytgnepbogadfinaa.N
namespace Go.Proofs.Ytgnepbogadfinaa.N
abbrev Str := Nat → Bool
def scons (b : Bool) (s : Str) : Str := fun n => match n with | 0 => b | n + 1 => s n
def stail (s : Str) : Str := fun n => s (n + 1)
def sapp : List Bool → Str → Str
  | [], s => s
  | b :: l, s => scons b (sapp l s)
theorem scons_head (b : Bool) (s : Str) : scons b s 0 = b := rfl
theorem stail_scons (b : Bool) (s : Str) : stail (scons b s) = s := rfl
theorem scons_eta (s : Str) : scons (s 0) (stail s) = s := by funext n; cases n <;> rfl
theorem scons_inj {a b : Bool} {s t : Str} (h : scons a s = scons b t) : a = b ∧ s = t := ⟨congrFun h 0, by have := congrArg stail h; exact this⟩
theorem sapp_app (a b : List Bool) (s : Str) : sapp (a ++ b) s = sapp a (sapp b s) := by
  induction a with
  | nil => rfl
  | cons x a ih => simp only [List.cons_append, sapp, ih]
theorem sapp_cancel : ∀ (a b : List Bool), (∀ s, sapp a s = sapp b s) → a = b
  | [], [], _ => rfl
  | [], x :: b, h => by have := congrFun (h (fun _ => !x)) 0; simp [sapp, scons] at this
  | x :: a, [], h => by have := congrFun (h (fun _ => !x)) 0; simp [sapp, scons] at this
  | x :: a, y :: b, h => by
    have h0 := (scons_inj (h fun _ => true)).1
    rw [h0, sapp_cancel a b fun s => (scons_inj (h s)).2]
def adr : Tr → Nat → List Bool
  | .leaf, _ => []
  | .node l r, k => if k < l.carets + 1 then false :: adr l k else true :: adr r (k - (l.carets + 1))
def find : Tr → Str → Nat × Str
  | .leaf, s => (0, s)
  | .node l r, s => if s 0 = false then find l (stail s) else ((find r (stail s)).1 + (l.carets + 1), (find r (stail s)).2)
theorem find_le : ∀ (T : Tr) (s : Str), (find T s).1 ≤ T.carets
  | .leaf, s => Nat.le_refl _
  | .node l r, s => by
    have := find_le l (stail s)
    have := find_le r (stail s)
    simp only [find, Tr.carets]
    split
    · omega
    · simp only; omega
theorem adr_find : ∀ (T : Tr) (s : Str), sapp (adr T (find T s).1) (find T s).2 = s
  | .leaf, s => rfl
  | .node l r, s => by
    have h1 := find_le l (stail s)
    simp only [find]
    split
    · rename_i h
      simp only [adr]
      rw [if_pos (by omega)]
      simp only [sapp, adr_find l (stail s)]
      rw [← h, scons_eta]
    · rename_i h
      simp only [adr]
      rw [if_neg (by omega), Nat.add_sub_cancel]
      simp only [sapp, adr_find r (stail s)]
      rw [← show s 0 = true by cases e : s 0 with | true => rfl | false => exact absurd e h, scons_eta]
theorem find_adr : ∀ (T : Tr) (k : Nat) (s : Str), k ≤ T.carets → find T (sapp (adr T k) s) = (k, s)
  | .leaf, k, s, h => by
    have : k = 0 := by simp only [Tr.carets] at h; omega
    subst this; rfl
  | .node l r, k, s, h => by
    simp only [Tr.carets] at h
    simp only [adr]
    split
    · rename_i hk
      simp only [sapp, find, scons_head, stail_scons, if_true]
      exact find_adr l k s (by omega)
    · rename_i hk
      simp only [sapp, find, scons_head, stail_scons, Bool.true_eq_false, if_false]
      rw [find_adr r _ s (by omega)]
      simp only [Prod.mk.injEq, and_true]; omega
theorem find_iff {T : Tr} {s t : Str} {k : Nat} (hk : k ≤ T.carets) : find T s = (k, t) ↔ s = sapp (adr T k) t := by
  constructor
  · intro h; have := adr_find T s; rw [h] at this; exact this.symm
  · rintro rfl; exact find_adr T k t hk
theorem find_eq {T : Tr} {s t : Str} {k : Nat} (hk : k ≤ T.carets) (h : s = sapp (adr T k) t) : find T s = (k, t) := (find_iff hk).2 h
def act (p : Tr × Tr) (s : Str) : Str := sapp (adr p.2 (find p.1 s).1) (find p.1 s).2
theorem act_at (p : Tr × Tr) (k : Nat) (hk : k ≤ p.1.carets) (s : Str) : act p (sapp (adr p.1 k) s) = sapp (adr p.2 k) s := by
  unfold act; rw [find_adr p.1 k s hk]
def off (L : List Tr) : Nat → Nat
  | 0 => 0
  | k + 1 => off L k + ((L.getD k .leaf).carets + 1)
theorem off_grown (L : List Tr) : ∀ (T : Tr) (k : Nat), off L (k + (T.carets + 1)) = off L k + ((T.grown (fun i => L.getD i .leaf) k).carets + 1)
  | .leaf, k => rfl
  | .node l r, k => by
    have h1 := off_grown L l k
    have h2 := off_grown L r (k + (l.carets + 1))
    simp only [Tr.grown, Tr.carets]
    rw [show k + (1 + l.carets + r.carets + 1) = k + (l.carets + 1) + (r.carets + 1) by omega, h2, h1]; omega
theorem off_mono (L : List Tr) : ∀ (j k : Nat), off L k ≤ off L (k + j)
  | 0, k => Nat.le_refl _
  | j + 1, k => by
    have := off_mono L j k
    rw [← Nat.add_assoc]; simp only [off]; omega
theorem off_lt (L : List Tr) {k m : Nat} (h : k < m) : off L k + ((L.getD k .leaf).carets + 1) ≤ off L m := by
  have := off_mono L (m - (k + 1)) (k + 1)
  rw [show k + 1 + (m - (k + 1)) = m by omega] at this
  simpa [off] using this
theorem grown_adr (L : List Tr) : ∀ (T : Tr) (b k j : Nat), k ≤ T.carets → j ≤ (L.getD (b + k) .leaf).carets → adr (T.grown (fun i => L.getD i .leaf) b) (off L (b + k) - off L b + j) = adr T k ++ adr (L.getD (b + k) .leaf) j
  | .leaf, b, k, j, hk, hj => by
    have : k = 0 := by simp only [Tr.carets] at hk; omega
    subst this
    simp [Tr.grown, adr]
  | .node l r, b, k, j, hk, hj => by
    simp only [Tr.carets] at hk
    have ho := off_grown L l b
    have h0 := off_mono L k b
    simp only [Tr.grown, adr]
    by_cases h : k < l.carets + 1
    · have h1 := off_lt L (show b + k < b + (l.carets + 1) by omega)
      rw [if_pos (by omega), if_pos h, grown_adr L l b k j (by omega) hj]; rfl
    · have h1 := off_mono L (k - (l.carets + 1)) (b + (l.carets + 1))
      rw [show b + (l.carets + 1) + (k - (l.carets + 1)) = b + k by omega] at h1
      rw [if_neg (by omega), if_neg h]
      have := grown_adr L r (b + (l.carets + 1)) (k - (l.carets + 1)) j (by omega) (by rw [show b + (l.carets + 1) + (k - (l.carets + 1)) = b + k by omega]; exact hj)
      rw [show b + (l.carets + 1) + (k - (l.carets + 1)) = b + k by omega] at this
      rw [List.cons_append, ← this]
      congr 2
      omega
theorem fill_adr (L : List Tr) (T : Tr) (k j : Nat) (hk : k ≤ T.carets) (hj : j ≤ (L.getD k .leaf).carets) : adr (fill T L) (off L k + j) = adr T k ++ adr (L.getD k .leaf) j := by
  have := grown_adr L T 0 k j hk (by rw [Nat.zero_add]; exact hj)
  rw [Nat.zero_add, show off L 0 = 0 from rfl, Nat.sub_zero] at this
  exact this
theorem fill_off (L : List Tr) (T : Tr) : off L (T.carets + 1) = (fill T L).carets + 1 := by
  have := off_grown L T 0
  rw [Nat.zero_add, show off L 0 = 0 from rfl, Nat.zero_add] at this
  exact this
theorem off_split (L : List Tr) : ∀ (n i : Nat), i < off L n → ∃ k j, k < n ∧ j ≤ (L.getD k .leaf).carets ∧ i = off L k + j
  | 0, i, h => by simp [off] at h
  | n + 1, i, h => by
    by_cases hi : i < off L n
    · obtain ⟨k, j, h1, h2, h3⟩ := off_split L n i hi
      exact ⟨k, j, by omega, h2, h3⟩
    · simp only [off] at h
      exact ⟨n, i - off L n, by omega, by omega, by omega⟩
theorem grown_append (A B : List Tr) : ∀ (T : Tr) (k : Nat), k + T.carets < A.length → T.grown (fun i => (A ++ B).getD i .leaf) k = T.grown (fun i => A.getD i .leaf) k
  | .leaf, k, h => by simp only [Tr.grown, List.getD_eq_getElem?_getD]; rw [List.getElem?_append_left (by omega)]
  | .node l r, k, h => by
    simp only [Tr.carets] at h
    simp only [Tr.grown]
    rw [grown_append A B l k (by omega), grown_append A B r _ (by omega)]
theorem grown_behind (A B : List Tr) : ∀ (T : Tr) (k : Nat), T.grown (fun i => (A ++ B).getD i .leaf) (A.length + k) = T.grown (fun i => B.getD i .leaf) k
  | .leaf, k => by simp only [Tr.grown, List.getD_eq_getElem?_getD]; rw [List.getElem?_append_right (by omega), Nat.add_sub_cancel_left]
  | .node l r, k => by
    simp only [Tr.grown]
    rw [grown_behind A B l k, Nat.add_assoc, grown_behind A B r _]
theorem fill_parts : ∀ (t w : Tr), Part t w → fill t (partsT t w) = w
  | .leaf, w, _ => rfl
  | .node _ _, .leaf, h => h.elim
  | .node l r, .node a b, h => by
    have l1 := parts_length l a h.1
    have i1 := fill_parts l a h.1
    have i2 := fill_parts r b h.2
    unfold fill at i1 i2 ⊢
    simp only [partsT, Tr.grown]
    rw [grown_append _ _ l 0 (by omega), i1]
    have := grown_behind (partsT l a) (partsT r b) r 0
    rw [Nat.add_zero, l1] at this
    rw [Nat.zero_add, this, i2]
theorem act_mul0 (p q : Tr × Tr) (hp : p.1.carets = p.2.carets) (hq : q.1.carets = q.2.carets) (s : Str) : act (mul0 p q) s = act q (act p s) := by
  have P1 := part_join_l p.2 q.1
  have P2 := part_join_r p.2 q.1
  have F1 := fill_parts _ _ P1
  have F2 := fill_parts _ _ P2
  unfold mul0
  generalize join p.2 q.1 = J at *
  generalize partsT p.2 J = P at *
  generalize partsT q.1 J = Q at *
  obtain ⟨k, hk, t, rfl⟩ : ∃ k, k ≤ p.1.carets ∧ ∃ t, s = sapp (adr p.1 k) t := ⟨_, find_le p.1 s, _, (adr_find p.1 s).symm⟩
  rw [act_at p k hk]
  obtain ⟨j, hj, u, rfl⟩ : ∃ j, j ≤ (P.getD k .leaf).carets ∧ ∃ u, t = sapp (adr (P.getD k .leaf) j) u := ⟨_, find_le _ t, _, (adr_find _ t).symm⟩
  rw [← sapp_app, ← fill_adr P p.1 k j hk hj, ← sapp_app, ← fill_adr P p.2 k j (by omega) hj, F1]
  have b1 := off_lt P (show k < p.2.carets + 1 by omega)
  rw [fill_off, F1] at b1
  have b2 := off_lt P (show k < p.1.carets + 1 by omega)
  rw [fill_off] at b2
  obtain ⟨m, i, hm, hi, e⟩ := off_split Q (q.1.carets + 1) (off P k + j) (by rw [fill_off, F2]; omega)
  rw [act_at (fill p.1 P, fill q.2 Q) (off P k + j) (by simp only; omega)]
  simp only
  rw [e, fill_adr Q q.2 m i (by omega) hi, show adr J (off Q m + i) = adr q.1 m ++ adr (Q.getD m .leaf) i by rw [← fill_adr Q q.1 m i (by omega) hi, F2], sapp_app, sapp_app, act_at q m (by omega)]
theorem carets_zero {T : Tr} (h : T.carets = 0) : T = .leaf := by
  cases T with
  | leaf => rfl
  | node l r => simp only [Tr.carets] at h; omega
theorem expo_adr : ∀ (T : Tr) (k : Nat), k ∈ expo T 0 → adr T k = adr (without T k) k ++ [false] ∧ adr T (k + 1) = adr (without T k) k ++ [true] ∧ (∀ i, i < k → adr T i = adr (without T k) i) ∧ (∀ i, k + 1 < i → i ≤ T.carets → adr T i = adr (without T k) (i - 1))
  | .leaf, _, h => by cases h
  | .node l r, k, h => by
    by_cases hl : l = .leaf ∧ r = .leaf
    · obtain ⟨rfl, rfl⟩ := hl
      simp only [expo, List.mem_singleton] at h
      subst h
      exact ⟨rfl, rfl, fun i hi => by omega, fun i hi h2 => by simp only [Tr.carets] at h2; omega⟩
    · rcases mem_expo_node hl h with ⟨h1, h2⟩ | ⟨h1, h2⟩
      · obtain ⟨a1, a2, a3, a4⟩ := expo_adr l k h2
        have hc := without_carets l k h2
        have hr := expo_range l 0 k h2
        rw [without_node hl, if_neg (by omega)]
        simp only [adr]
        refine ⟨?_, ?_, fun i hi => ?_, fun i hi hi2 => ?_⟩
        · rw [if_pos (by omega), if_pos (by omega), a1]; rfl
        · rw [if_pos (by omega), if_pos (by omega), a2]; rfl
        · rw [if_pos (by omega), if_pos (by omega), a3 i hi]
        · by_cases hi3 : i < l.carets + 1
          · rw [if_pos hi3, if_pos (by omega), a4 i hi (by omega)]
          · rw [if_neg hi3, if_neg (by omega)]
            congr 2; omega
      · obtain ⟨a1, a2, a3, a4⟩ := expo_adr r (k - (l.carets + 1)) h2
        rw [without_node hl, if_pos h1]
        simp only [adr]
        refine ⟨?_, ?_, fun i hi => ?_, fun i hi hi2 => ?_⟩
        · rw [if_neg (by omega), if_neg (by omega), a1]; rfl
        · rw [if_neg (by omega), if_neg (by omega), show k + 1 - (l.carets + 1) = k - (l.carets + 1) + 1 by omega, a2]; rfl
        · by_cases hi3 : i < l.carets + 1
          · rw [if_pos hi3, if_pos hi3]
          · rw [if_neg hi3, if_neg hi3, a3 _ (by omega)]
        · simp only [Tr.carets] at hi2
          rw [if_neg (by omega), if_neg (by omega), a4 _ (by omega) (by omega)]
          congr 2; omega
theorem cons_snoc {a b : Bool} {x w : List Bool} (h : a :: x = w ++ [b]) : (w = [] ∧ a = b ∧ x = []) ∨ ∃ v, w = a :: v ∧ x = v ++ [b] := by
  cases w with
  | nil => simp at h; exact .inl ⟨rfl, h.1, h.2⟩
  | cons c w => simp at h; exact .inr ⟨w, by rw [h.1], h.2⟩
theorem adr_nil_first : ∀ {T : Tr} {k : Nat}, adr T k = [] → T = .leaf
  | .leaf, _, _ => rfl
  | .node l r, k, h => by simp only [adr] at h; split at h <;> cases h
theorem adr_expo : ∀ (T : Tr) (k : Nat) (w : List Bool), k + 1 ≤ T.carets → adr T k = w ++ [false] → adr T (k + 1) = w ++ [true] → k ∈ expo T 0
  | .leaf, k, w, h, _, _ => by simp only [Tr.carets] at h; omega
  | .node l r, k, w, h, h1, h2 => by
    by_cases hl : l = .leaf ∧ r = .leaf
    · obtain ⟨rfl, rfl⟩ := hl
      have : k = 0 := by simp only [Tr.carets] at h; omega
      subst this
      simp [expo]
    · rw [expo_node hl]
      simp only [Tr.carets] at h
      simp only [adr] at h1 h2
      rw [List.mem_append]
      by_cases ha : k + 1 < l.carets + 1
      · left
        rw [if_pos (by omega)] at h1
        rw [if_pos ha] at h2
        rcases cons_snoc h1 with ⟨rfl, _, _⟩ | ⟨v, rfl, hv⟩
        · simp at h2
        · exact adr_expo l k v (by omega) hv (by simpa using h2)
      · by_cases hb : k < l.carets + 1
        · exfalso
          rw [if_pos hb] at h1
          rw [if_neg ha] at h2
          rcases cons_snoc h1 with ⟨rfl, _, h3⟩ | ⟨v, rfl, hv⟩
          · simp at h2
            exact hl ⟨adr_nil_first h3, adr_nil_first h2⟩
          · simp at h2
        · right
          rw [if_neg hb] at h1
          rw [if_neg ha] at h2
          have e : 0 + (l.carets + 1) = l.carets + 1 := by omega
          rw [← e, expo_shift, List.mem_map]
          refine ⟨k - (l.carets + 1), ?_, by omega⟩
          rcases cons_snoc h1 with ⟨rfl, h3, _⟩ | ⟨v, rfl, hv⟩
          · cases h3
          · exact adr_expo r _ v (by omega) hv (by rw [show k - (l.carets + 1) + 1 = k + 1 - (l.carets + 1) by omega]; simpa using h2)
theorem expo_some' : ∀ (T : Tr), T ≠ .leaf → ∃ k, k ∈ expo T 0
  | .leaf, h => absurd rfl h
  | .node .leaf .leaf, _ => ⟨0, by simp [expo]⟩
  | .node (.node a b) r, _ => by
    obtain ⟨k, hk⟩ := expo_some' (.node a b) (by simp)
    exact ⟨k, by rw [expo_node (nl_l a b r)]; exact List.mem_append_left _ hk⟩
  | .node .leaf (.node a b), _ => by
    obtain ⟨k, hk⟩ := expo_some' (.node a b) (by simp)
    refine ⟨k + (Tr.leaf.carets + 1), ?_⟩
    rw [expo_node (nl_r a b), Nat.zero_add]
    refine List.mem_append_right _ ?_
    have := expo_shift (.node a b) 0 (Tr.leaf.carets + 1)
    rw [Nat.zero_add] at this
    rw [this]
    exact List.mem_map_of_mem hk
theorem expo_some (l r : Tr) : ∃ k, k ∈ expo (.node l r) 0 := expo_some' _ (by simp)
def Bal (p : Tr × Tr) : Prop := p.1.carets = p.2.carets
theorem act_without (A B : Tr) (hc : A.carets = B.carets) (k : Nat) (h : k ∈ bothT A B) (s : Str) : act (without A k, without B k) s = act (A, B) s := by
  obtain ⟨hA, hB⟩ := mem_both h
  obtain ⟨a1, a2, a3, a4⟩ := expo_adr A k hA
  obtain ⟨b1, b2, b3, b4⟩ := expo_adr B k hB
  have cA := without_carets A k hA
  have cB := without_carets B k hB
  have rA := expo_range A 0 k hA
  obtain ⟨i, hi, t, rfl⟩ : ∃ i, i ≤ A.carets ∧ ∃ t, s = sapp (adr A i) t := ⟨_, find_le A s, _, (adr_find A s).symm⟩
  rw [act_at (A, B) i hi]
  simp only
  have key : ∀ j u, j ≤ (without A k).carets → act (without A k, without B k) (sapp (adr (without A k) j) u) = sapp (adr (without B k) j) u := fun j u hj => act_at (without A k, without B k) j hj u
  rcases Nat.lt_trichotomy i k with h1 | h1 | h1
  · rw [a3 i h1, b3 i h1, key i t (by omega)]
  · subst h1
    rw [a1, b1, sapp_app, sapp_app, key _ _ (by omega)]
  · by_cases h2 : i = k + 1
    · subst h2
      rw [a2, b2, sapp_app, sapp_app, key _ _ (by omega)]
    · rw [a4 i (by omega) hi, b4 i (by omega) (by omega), key _ _ (by omega)]
theorem act_redF : ∀ (n : Nat) (p : Tr × Tr), Bal p → ∀ s, act (redF n p) s = act p s
  | 0, p, _, s => rfl
  | n + 1, p, h, s => by
    simp only [redF]
    cases hb : bothT p.1 p.2 with
    | nil => rfl
    | cons k l =>
      have hk : k ∈ bothT p.1 p.2 := by rw [hb]; exact List.mem_cons_self
      obtain ⟨hA, hB⟩ := mem_both hk
      have cA := without_carets p.1 k hA
      have cB := without_carets p.2 k hB
      unfold Bal at h
      simp only
      rw [act_redF n (without p.1 k, without p.2 k) (by unfold Bal; simp only; omega) s, act_without p.1 p.2 h k hk s]
theorem act_red {p : Tr × Tr} (h : Bal p) (s : Str) : act (red p) s = act p s := act_redF _ p h s
theorem Bal.red {p : Tr × Tr} (h : Bal p) : Bal (red p) := red_same h
theorem Bal.mul {p q : Tr × Tr} (hp : Bal p) (hq : Bal q) : Bal (mul p q) := (mul_carets hp hq).1
theorem act_mul {p q : Tr × Tr} (hp : Bal p) (hq : Bal q) (s : Str) : act (mul p q) s = act q (act p s) := by
  unfold mul
  obtain ⟨h1, h2⟩ := mul0_carets hp hq
  rw [act_red (by unfold Bal; rw [h1, h2]), act_mul0 p q hp hq]
def Sub (T : Tr) (v : List Bool) (i : Nat) (U : Tr) : Prop := i + U.carets ≤ T.carets ∧ ∀ m, m ≤ U.carets → adr T (i + m) = v ++ adr U m
theorem Sub.refl (T : Tr) : Sub T [] 0 T := ⟨by omega, fun m _ => by rw [Nat.zero_add]; rfl⟩
theorem Sub.left {T : Tr} {v : List Bool} {i : Nat} {l r : Tr} (h : Sub T v i (.node l r)) : Sub T (v ++ [false]) i l := by
  obtain ⟨h1, h2⟩ := h
  simp only [Tr.carets] at h1 h2
  refine ⟨by omega, fun m hm => ?_⟩
  rw [h2 m (by omega)]
  simp only [adr]
  rw [if_pos (by omega)]
  simp
theorem Sub.right {T : Tr} {v : List Bool} {i : Nat} {l r : Tr} (h : Sub T v i (.node l r)) : Sub T (v ++ [true]) (i + (l.carets + 1)) r := by
  obtain ⟨h1, h2⟩ := h
  simp only [Tr.carets] at h1 h2
  refine ⟨by omega, fun m hm => ?_⟩
  rw [Nat.add_assoc, h2 _ (by omega)]
  simp only [adr]
  rw [if_neg (by omega), Nat.add_sub_cancel_left]
  simp
theorem not_solid {p q : Tr × Tr} {v : List Bool} {i j : Nat} {l r : Tr} (hq : Bal q) (hb : bothT q.1 q.2 = []) (ha : ∀ s, act p s = act q s) (h1 : Sub p.1 v i .leaf) (h2 : Sub q.1 v j (.node l r)) : False := by
  have hv : adr p.1 i = v := by have := h1.2 0 (Nat.le_refl _); simpa [adr] using this
  have hi : i ≤ p.1.carets := by have := h1.1; simp only [Tr.carets] at this; omega
  have key : ∀ m, m ≤ (Tr.node l r).carets → adr q.2 (j + m) = adr p.2 i ++ adr (.node l r) m := fun m hm => sapp_cancel _ _ fun s => by
    have e1 := act_at q (j + m) (by have := h2.1; omega) s
    have e2 := act_at p i hi (sapp (adr (.node l r) m) s)
    rw [hv, ← sapp_app, ← h2.2 m hm, ha, e1] at e2
    rw [sapp_app]; exact e2
  obtain ⟨k, hk⟩ := expo_some l r
  have kr := expo_range _ _ _ hk
  obtain ⟨a1, a2, _, _⟩ := expo_adr _ _ hk
  have hle := h2.1
  unfold Bal at hq
  have m1 : j + k ∈ expo q.1 0 := adr_expo q.1 (j + k) (v ++ adr (without (.node l r) k) k) (by omega) (by rw [h2.2 k (by omega), a1, List.append_assoc]) (by rw [Nat.add_assoc, h2.2 (k + 1) (by omega), a2, List.append_assoc])
  have m2 : j + k ∈ expo q.2 0 := adr_expo q.2 (j + k) (adr p.2 i ++ adr (without (.node l r) k) k) (by omega) (by rw [key k (by omega), a1, List.append_assoc]) (by rw [Nat.add_assoc, key (k + 1) (by omega), a2, List.append_assoc])
  exact both_nil.1 hb _ m1 m2
theorem same_sub {p q : Tr × Tr} (hp : Bal p) (hq : Bal q) (bp : bothT p.1 p.2 = []) (bq : bothT q.1 q.2 = []) (ha : ∀ s, act p s = act q s) : ∀ (U V : Tr) (v : List Bool) (i j : Nat), Sub p.1 v i U → Sub q.1 v j V → U = V
  | .leaf, .leaf, _, _, _, _, _ => rfl
  | .leaf, .node l r, v, i, j, h1, h2 => (not_solid hq bq ha h1 h2).elim
  | .node l r, .leaf, v, i, j, h1, h2 => (not_solid hp bp (fun s => (ha s).symm) h2 h1).elim
  | .node l r, .node a b, v, i, j, h1, h2 => by
    rw [same_sub hp hq bp bq ha l a _ _ _ h1.left h2.left, same_sub hp hq bp bq ha r b _ _ _ h1.right h2.right]
theorem adr_inj : ∀ (A B : Tr), A.carets = B.carets → (∀ k, k ≤ A.carets → adr A k = adr B k) → A = B
  | .leaf, B, h, _ => (carets_zero h.symm).symm
  | .node l r, .leaf, h, _ => by simp only [Tr.carets] at h; omega
  | .node l r, .node a b, h, hk => by
    simp only [Tr.carets] at h hk
    have hc : l.carets = a.carets := by
      rcases Nat.lt_trichotomy l.carets a.carets with h1 | h1 | h1
      · have := hk (l.carets + 1) (by omega)
        simp only [adr] at this
        rw [if_neg (by omega), if_pos (by omega)] at this
        simp at this
      · exact h1
      · have := hk (a.carets + 1) (by omega)
        simp only [adr] at this
        rw [if_pos (by omega), if_neg (by omega)] at this
        simp at this
    rw [adr_inj l a hc fun k hl => by
        have := hk k (by omega)
        simp only [adr] at this
        rw [if_pos (by omega), if_pos (by omega)] at this
        simpa using this,
      adr_inj r b (by omega) fun k hl => by
        have := hk (k + (l.carets + 1)) (by omega)
        simp only [adr] at this
        rw [if_neg (by omega), if_neg (by omega), hc, Nat.add_sub_cancel] at this
        simpa using this]
theorem pair_ext {p q : Tr × Tr} (hp : Bal p) (hq : Bal q) (bp : bothT p.1 p.2 = []) (bq : bothT q.1 q.2 = []) (ha : ∀ s, act p s = act q s) : p = q := by
  have h1 : p.1 = q.1 := same_sub hp hq bp bq ha p.1 q.1 [] 0 0 (Sub.refl _) (Sub.refl _)
  obtain ⟨A, B⟩ := p
  obtain ⟨C, D⟩ := q
  simp only at h1
  subst h1
  unfold Bal at hp hq
  simp only at hp hq
  rw [adr_inj B D (by omega) fun k hk => sapp_cancel _ _ fun s => by
    have e1 := act_at (A, B) k (by simp only; omega) s
    have e2 := act_at (A, D) k (by simp only; omega) s
    rw [ha, e2] at e1
    exact e1.symm]
theorem red_ext {p q : Tr × Tr} (hp : Bal p) (hq : Bal q) (ha : ∀ s, act p s = act q s) : red p = red q :=
  pair_ext hp.red hq.red (red_both p) (red_both q) fun s => by rw [act_red hp, act_red hq, ha]
def inv (p : Tr × Tr) : Tr × Tr := (p.2, p.1)
def one : Tr × Tr := (.leaf, .leaf)
theorem Bal.inv {p : Tr × Tr} (h : Bal p) : Bal (inv p) := Eq.symm h
theorem Bal.one : Bal one := rfl
theorem act_one (s : Str) : act one s = s := rfl
theorem act_inv {p : Tr × Tr} (h : Bal p) (s : Str) : act (inv p) (act p s) = s := by
  obtain ⟨k, hk, t, rfl⟩ : ∃ k, k ≤ p.1.carets ∧ ∃ t, s = sapp (adr p.1 k) t := ⟨_, find_le p.1 s, _, (adr_find p.1 s).symm⟩
  rw [act_at p k hk]
  exact act_at (N.inv p) k (by unfold N.inv; unfold Bal at h; simp only; omega) t
theorem act_inv' {p : Tr × Tr} (h : Bal p) (s : Str) : act p (act (inv p) s) = s := act_inv h.inv s
theorem mul_ext {p q r t : Tr × Tr} (hp : Bal p) (hq : Bal q) (hr : Bal r) (ht : Bal t) (h : ∀ s, act q (act p s) = act t (act r s)) : mul p q = mul r t :=
  pair_ext (hp.mul hq) (hr.mul ht) (red_both _) (red_both _) fun s => by rw [act_mul hp hq, act_mul hr ht, h]
theorem mul_assoc {p q r : Tr × Tr} (hp : Bal p) (hq : Bal q) (hr : Bal r) : mul (mul p q) r = mul p (mul q r) :=
  mul_ext (hp.mul hq) hr hp (hq.mul hr) fun s => by rw [act_mul hp hq, act_mul hq hr]
theorem mul_one {p : Tr × Tr} (hp : Bal p) : mul p one = red p :=
  pair_ext (hp.mul Bal.one) hp.red (red_both _) (red_both _) fun s => by rw [act_mul hp Bal.one, act_red hp, act_one]
theorem one_mul {p : Tr × Tr} (hp : Bal p) : mul one p = red p :=
  pair_ext (Bal.one.mul hp) hp.red (red_both _) (red_both _) fun s => by rw [act_mul Bal.one hp, act_red hp, act_one]
end Go.Proofs.Ytgnepbogadfinaa.N
namespace Go.Proofs.Ytgnepbogadfinaa.N
def moves (bk : Bool) (T : Tr) : List Tr := (T.turns bk).filterMap fun a => turnT bk a T
def near0 (T : Tr) : List Tr := moves false T ++ moves true T
end Go.Proofs.Ytgnepbogadfinaa.N
namespace Go.Proofs.Ytgnepbogadfinaa.N
theorem rot_back {bk : Bool} {T U : Tr} (h : rot bk T = some U) : rot (!bk) U = some T := by
  cases T with
  | leaf => simp [rot] at h
  | node l r =>
    cases bk
    · cases l with
      | leaf => simp [rot] at h
      | node a b => simp [rot] at h; subst h; rfl
    · cases r with
      | leaf => simp [rot] at h
      | node a b => simp [rot] at h; subst h; rfl
theorem turnT_back {bk : Bool} : ∀ {a : List UInt8} {T U : Tr}, turnT bk a T = some U → turnT (!bk) a U = some T
  | [], T, U, h => rot_back h
  | _ :: _, .leaf, U, h => by simp [turnT] at h
  | c :: l, .node a b, U, h => by
    simp only [turnT] at h
    split at h
    · rename_i hc
      obtain ⟨x, hx, rfl⟩ := Option.map_eq_some_iff.1 h
      simp only [turnT, if_pos hc, turnT_back hx, Option.map_some]
    · rename_i hc
      split at h
      · rename_i hd
        obtain ⟨x, hx, rfl⟩ := Option.map_eq_some_iff.1 h
        simp only [turnT, if_neg hc, if_pos hd, turnT_back hx, Option.map_some]
      · cases h
theorem turnT_place {bk : Bool} : ∀ {a : List UInt8} {T U : Tr}, turnT bk a T = some U → a ∈ T.places []
  | [], .leaf, U, h => by simp [turnT, rot] at h
  | [], .node l r, U, h => by simp [Tr.places]
  | _ :: _, .leaf, U, h => by simp [turnT] at h
  | c :: l, .node a b, U, h => by
    have h1 : a.places [48] = (a.places []).map (48 :: ·) := by have := places_map a [48] []; simpa using this
    have h2 : b.places [49] = (b.places []).map (49 :: ·) := by have := places_map b [49] []; simpa using this
    simp only [Tr.places, List.nil_append, h1, h2]
    simp only [turnT] at h
    split at h
    · rename_i hc
      obtain ⟨x, hx, rfl⟩ := Option.map_eq_some_iff.1 h
      subst hc
      have := turnT_place hx
      simp [this]
    · split at h
      · rename_i hd
        obtain ⟨x, hx, rfl⟩ := Option.map_eq_some_iff.1 h
        subst hd
        have := turnT_place hx
        simp [this]
      · cases h
theorem mem_turns {bk : Bool} {a : List UInt8} {T U : Tr} (h : turnT bk a T = some U) : a ∈ T.turns bk := List.mem_filter.2 ⟨turnT_place h, by rw [h]; rfl⟩
theorem mem_moves {bk : Bool} {T U : Tr} : U ∈ moves bk T ↔ ∃ a, turnT bk a T = some U :=
  ⟨fun h => let ⟨a, _, h⟩ := List.mem_filterMap.1 h; ⟨a, h⟩, fun ⟨a, h⟩ => List.mem_filterMap.2 ⟨a, mem_turns h, h⟩⟩
theorem mem_near {T U : Tr} : U ∈ near0 T ↔ ∃ bk a, turnT bk a T = some U := by
  unfold near0
  rw [List.mem_append, mem_moves, mem_moves]
  constructor
  · rintro (⟨a, h⟩ | ⟨a, h⟩)
    · exact ⟨_, a, h⟩
    · exact ⟨_, a, h⟩
  · rintro ⟨bk, a, h⟩
    cases bk
    · exact .inl ⟨a, h⟩
    · exact .inr ⟨a, h⟩
theorem near_symm {T U : Tr} (h : U ∈ near0 T) : T ∈ near0 U := by
  obtain ⟨bk, a, h⟩ := mem_near.1 h
  exact mem_near.2 ⟨!bk, a, turnT_back h⟩
end Go.Proofs.Ytgnepbogadfinaa.N
namespace Go.Proofs.Ytgnepbogadfinaa.N
def Way : Nat → Tr → Tr → Prop
  | 0, T, U => U = T
  | k + 1, T, U => ∃ M, Way k T M ∧ U ∈ near0 M
theorem near_carets {T U : Tr} (h : U ∈ near0 T) : U.carets = T.carets := by
  obtain ⟨bk, a, h⟩ := mem_near.1 h
  exact turnT_carets h
theorem Way.one {T U : Tr} (h : U ∈ near0 T) : Way 1 T U := ⟨T, rfl, h⟩
theorem Way.trans {j : Nat} {T M : Tr} (h : Way j T M) : ∀ {k : Nat} {U : Tr}, Way k M U → Way (j + k) T U
  | 0, U, e => by cases (show U = M from e); exact h
  | k + 1, U, ⟨V, h1, h2⟩ => ⟨V, h.trans h1, h2⟩
theorem Way.symm : ∀ {k : Nat} {T U : Tr}, Way k T U → Way k U T
  | 0, T, U, e => (show U = T from e).symm
  | k + 1, T, U, ⟨M, h1, h2⟩ => by
    have := (Way.one (near_symm h2)).trans h1.symm
    rwa [Nat.add_comm] at this
theorem Way.carets : ∀ {k : Nat} {T U : Tr}, Way k T U → U.carets = T.carets
  | 0, T, U, e => by cases (show U = T from e); rfl
  | k + 1, T, U, ⟨M, h1, h2⟩ => (near_carets h2).trans h1.carets
def Dist (T U : Tr) (k : Nat) : Prop := Way k T U ∧ ∀ j, Way j T U → k ≤ j
theorem dist_least {T U : Tr} : ∀ (n k : Nat), k ≤ n → Way k T U → ∃ j, j ≤ k ∧ Dist T U j
  | 0, k, hk, h => ⟨k, Nat.le_refl _, h, fun j _ => by omega⟩
  | n + 1, k, hk, h => by
    by_cases hl : ∃ j, j < k ∧ Way j T U
    · obtain ⟨j, hj, hw⟩ := hl
      obtain ⟨i, hi, hd⟩ := dist_least n j (by omega) hw
      exact ⟨i, by omega, hd⟩
    · exact ⟨k, Nat.le_refl _, h, fun j hw => Nat.le_of_not_lt fun hj => hl ⟨j, hj, hw⟩⟩
theorem Way.dist {T U : Tr} {k : Nat} (h : Way k T U) : ∃ j, j ≤ k ∧ Dist T U j := dist_least k k (Nat.le_refl _) h
theorem Dist.symm {T U : Tr} {k : Nat} (h : Dist T U k) : Dist U T k := ⟨h.1.symm, fun j hj => h.2 j hj.symm⟩
theorem Dist.near {T M U : Tr} {k : Nat} (h : Dist T M k) (hn : U ∈ near0 M) : ∃ j, j ≤ k + 1 ∧ Dist T U j := Way.dist ⟨M, h.1, hn⟩
theorem dist_self (T : Tr) : Dist T T 0 := ⟨rfl, fun _ _ => Nat.zero_le _⟩
structure BF (T : Tr) (K : List Tr) (p : Nat) (g : Tr → Nat) : Prop where
  right : ∀ U, U ∈ K → Dist T U (g U)
  start : T ∈ K
  nodup : K.Nodup
  ord : ∃ d q, p ≤ q ∧ (∀ i, ∀ h : i < K.length, p ≤ i → i < q → g K[i] = d) ∧ (∀ i, ∀ h : i < K.length, q ≤ i → g K[i] = d + 1) ∧ (∀ U j, j ≤ d → Dist T U j → U ∈ K)
  closed : ∀ i, ∀ h : i < K.length, i < p → ∀ V ∈ near0 K[i], V ∈ K
structure BG (T : Tr) (K : List Tr) (p : Nat) (g : Tr → Nat) (L : List Tr) (H : Tr) (d : Nat) : Prop where
  right : ∀ U, U ∈ K → Dist T U (g U)
  start : T ∈ K
  nodup : K.Nodup
  head : K[p]? = some H
  told : g H = d
  ord : ∃ q, p < q ∧ (∀ i, ∀ h : i < K.length, p ≤ i → i < q → g K[i] = d) ∧ (∀ i, ∀ h : i < K.length, q ≤ i → g K[i] = d + 1) ∧ (∀ U j, j ≤ d → Dist T U j → U ∈ K)
  closed : ∀ i, ∀ h : i < K.length, i < p → ∀ V ∈ near0 K[i], V ∈ K
  done : ∀ V ∈ L, V ∈ K
theorem BF.first (T : Tr) (g : Tr → Nat) (hg : g T = 0) : BF T [T] 0 g where
  right := fun U h => by cases List.mem_singleton.1 h; rw [hg]; exact dist_self _
  start := List.mem_singleton.2 rfl
  nodup := by simp
  ord := ⟨0, 1, by omega, fun i h _ _ => by
      have : i = 0 := by simp at h; exact h
      subst this; exact hg, fun i h hi => by simp at h; omega, fun U j hj hd => by
      have : j = 0 := by omega
      subst this
      exact List.mem_singleton.2 (show U = T from hd.1)⟩
  closed := fun i _ h => by omega
theorem BG.new {T : Tr} {K : List Tr} {p d : Nat} {g g' : Tr → Nat} {L : List Tr} {H : Tr} (h : BG T K p g L H d) {V : Tr} (hV : ¬ V ∈ K) (hn : V ∈ near0 H) (hg : ∀ U, U ∈ K → g' U = g U) (hgV : g' V = d + 1) :
    BG T (K ++ [V]) p g' (L ++ [V]) H d := by
  have hp : p < K.length := (List.getElem?_eq_some_iff.1 h.head).1
  have hH : K[p] = H := (List.getElem?_eq_some_iff.1 h.head).2
  have hHK : H ∈ K := hH ▸ List.getElem_mem hp
  obtain ⟨q, h1, h2, h3, h4⟩ := h.ord
  have hdV : Dist T V (d + 1) := by
    obtain ⟨j, hj, hd⟩ := Dist.near (h.told ▸ h.right H hHK) hn
    by_cases hjd : j ≤ d
    · exact absurd (h4 V j hjd hd) hV
    · have : j = d + 1 := by omega
      exact this ▸ hd
  have sub : ∀ U, U ∈ K → U ∈ K ++ [V] := fun U hU => List.mem_append_left _ hU
  have hat : ∀ i, ∀ hi : i < (K ++ [V]).length, (∃ hK : i < K.length, (K ++ [V])[i] = K[i]) ∨ (i = K.length ∧ (K ++ [V])[i] = V) := fun i hi => by
    by_cases hK : i < K.length
    · exact .inl ⟨hK, List.getElem_append_left hK⟩
    · have : i = K.length := by simp at hi; omega
      subst this
      exact .inr ⟨rfl, by simp⟩
  refine ⟨fun U hU => ?_, sub _ h.start, ?_, ?_, (hg H hHK).trans h.told, ⟨min q K.length, by omega, fun i hi hpi hiq => ?_, fun i hi hiq => ?_, fun U j hj hd => sub _ (h4 U j hj hd)⟩, fun i hi hip W hW => ?_, fun U hU => ?_⟩
  · rcases List.mem_append.1 hU with hU | hU
    · rw [hg U hU]; exact h.right U hU
    · cases List.mem_singleton.1 hU; rw [hgV]; exact hdV
  · exact List.nodup_append.2 ⟨h.nodup, by simp, fun x hx y hy e => hV (by cases List.mem_singleton.1 hy; exact e ▸ hx)⟩
  · rw [List.getElem?_append_left hp]; exact h.head
  · rcases hat i hi with ⟨hK, e⟩ | ⟨e, _⟩
    · rw [e, hg _ (List.getElem_mem hK)]; exact h2 i hK hpi (by omega)
    · omega
  · rcases hat i hi with ⟨hK, e⟩ | ⟨_, e⟩
    · rw [e, hg _ (List.getElem_mem hK)]; exact h3 i hK (by omega)
    · rw [e, hgV]
  · rcases hat i hi with ⟨hK, e⟩ | ⟨e, _⟩
    · rw [e] at hW; exact sub _ (h.closed i hK hip W hW)
    · omega
  · rcases List.mem_append.1 hU with hU | hU
    · exact sub _ (h.done U hU)
    · exact List.mem_append_right _ hU
theorem BF.all {T : Tr} {K : List Tr} {p : Nat} {g : Tr → Nat} (h : BF T K p g) (hp : K.length ≤ p) : ∀ {k : Nat} {U : Tr}, Way k T U → U ∈ K
  | 0, U, e => by cases (show U = T from e); exact h.start
  | k + 1, U, ⟨M, h1, h2⟩ => by
    obtain ⟨i, hi, e⟩ := List.getElem_of_mem (h.all hp h1)
    subst e
    exact h.closed i hi (by omega) U h2
theorem BF.carets {T : Tr} {K : List Tr} {p : Nat} {g : Tr → Nat} (h : BF T K p g) {U : Tr} (hU : U ∈ K) : U.carets = T.carets := (h.right U hU).1.carets
theorem BG.carets {T : Tr} {K : List Tr} {p d : Nat} {g : Tr → Nat} {L : List Tr} {H : Tr} (h : BG T K p g L H d) {U : Tr} (hU : U ∈ K) : U.carets = T.carets := (h.right U hU).1.carets
structure LV (T : Tr) (r : Nat) (R S : List Tr) : Prop where
  all : ∀ U, U ∈ R ↔ ∃ j, j ≤ r ∧ Way j T U
  last : ∀ U, U ∈ S ↔ Dist T U r
theorem LV.first (T : Tr) : LV T 0 [T] [T] where
  all := fun U => ⟨fun h => ⟨0, Nat.le_refl _, List.mem_singleton.1 h⟩, fun ⟨j, hj, h⟩ => by
    have : j = 0 := by omega
    subst this; exact List.mem_singleton.2 h⟩
  last := fun U => ⟨fun h => by cases List.mem_singleton.1 h; exact dist_self _, fun h => List.mem_singleton.2 (show U = T from h.1)⟩
end Go.Proofs.Ytgnepbogadfinaa.N
