import Derived.Test.YtpmmajfdcicjiaaGreatG1RFnHalvesAndShifts
import Derived.Deep.AppendLies
import Derived.Maps.AppendAt
import Derived.Laws.OwnMore
import Derived.Laws.AppendOwn
import Derived.Laws.AppendOwnNone
import Derived.Laws.MakeOwn
import Derived.Test.YtpmmajfdcicjiaaGreatProg
import Derived.LoopTactic
import Derived.Deep.LoopGhost
import Derived.Laws.BytesArg
import Derived.Lib.ConvBytes
/- Slices of one-cell elements: read, owned, appended to. No condition. -/
namespace Go.Proofs.YtpmmajfdcicjiaaGreat.N
open Go.RowKit
set_option linter.unusedVariables false
set_option linter.unusedSimpArgs false

/-- The slice v reads as xs. -/
def Reads (w : World) (v : Value) (xs : List Value) : Prop :=
  ∃ A c, v = .slice A xs.length c ∧ (A = none → c = 0) ∧ (0 < xs.length → ∃ ad, A = some ad ∧ ∀ j u, xs[j]? = some u → w.cell? (ad.add j) = some u)
/-- The slice v reads as xs, and its memory is the call's own, from block 'base' on. -/
def Own (w : World) (base : Nat) (e : TypeId) (v : Value) (xs : List Value) : Prop := w.ownsRow base e 1 v xs.length xs

theorem add_plain (g j : Nat) : (⟨g, 0, none⟩ : Addr).add j = ⟨g, j, none⟩ := by unfold Addr.add; split <;> simp_all
theorem Own.nil (w : World) (base : Nat) (e : TypeId) : Own w base e (.slice none 0 0) [] := ⟨by simp, .inl ⟨rfl, rfl⟩⟩
theorem Own.reads {w : World} {base : Nat} {e : TypeId} {v : Value} {xs : List Value} (h : Own w base e v xs) : Reads w v xs := by
  rcases h.2 with ⟨rfl, h0⟩ | ⟨g, cap, cur, rfl, hb, hh, h1, h2, h3, h4⟩
  · exact ⟨none, 0, by rw [h0], fun _ => rfl, fun hp => by omega⟩
  · refine ⟨_, cap, rfl, (fun h => by cases h), fun _ => ⟨_, rfl, fun j u hu => ?_⟩⟩
    have hj : j < xs.length := (List.getElem?_eq_some_iff.1 hu).1
    have : w.cell? ⟨g, j, none⟩ = xs[j]? := World.ownsRow.cellAt (base := base) (e := e) (size := 1) (n := xs.length) (cap := cap) (xs := xs) h j (by omega)
    rw [add_plain, this, hu]
theorem Reads.ext {w w' : World} {v : Value} {xs : List Value} (h : Reads w v xs) (hx : Ext w w') : Reads w' v xs := by
  obtain ⟨A, c, e, h0, h⟩ := h
  exact ⟨A, c, e, h0, fun hp => let ⟨ad, ea, hc⟩ := h hp; ⟨ad, ea, fun j u hu => hx.cell (hc j u hu)⟩⟩
theorem Ext.grownBy {w w' : World} (h : Ext w w') (row : Option Nat) : w.grownBy w' row := ⟨h.os, h.tape, h.output, h.size, fun i hi _ => h.block i hi⟩
theorem Own.ext {w w' : World} {base : Nat} {e : TypeId} {v : Value} {xs : List Value} (h : Own w base e v xs) (hx : Ext w w') : Own w' base e v xs :=
  World.ownsRow.kept h (hx.grownBy none) (by cases v.ownBlock <;> simp)
theorem row_ext {w w' : World} {base : Nat} {e : TypeId} {sz n : Nat} {v : Value} {xs : List Value} (h : w.ownsRow base e sz v n xs) (hx : Ext w w') : w'.ownsRow base e sz v n xs :=
  World.ownsRow.kept h (hx.grownBy none) (by cases v.ownBlock <;> simp)
theorem Own.mono {w : World} {base base' : Nat} {e : TypeId} {v : Value} {xs : List Value} (h : Own w base e v xs) (hb : base' ≤ base) : Own w base' e v xs := by
  refine ⟨h.1, ?_⟩
  rcases h.2 with h | ⟨g, cap, cur, e1, h1, h2⟩
  · exact .inl h
  · exact .inr ⟨g, cap, cur, e1, by omega, h2⟩
/-- What is written is another block. -/
theorem Own.far {w w' : World} {base : Nat} {e : TypeId} {v : Value} {xs : List Value} {row : Option Nat} (h : Own w base e v xs) (hg : w.grownBy w' row) (hr : ∀ k, row = some k → v.ownBlock ≠ some k) : Own w' base e v xs :=
  World.ownsRow.kept h hg (by
    cases hv : v.ownBlock with
    | none => exact .inl rfl
    | some k => exact .inr fun e => hr k e.symm hv)
theorem Reads.far {w w' : World} {v : Value} {xs : List Value} {row : Option Nat} (h : Reads w v xs) (hg : w.grownBy w' row) (hr : ∀ k, row = some k → v.ownBlock ≠ some k) : Reads w' v xs := by
  obtain ⟨A, c, rfl, h0, h⟩ := h
  refine ⟨A, c, rfl, h0, fun hp => ?_⟩
  obtain ⟨ad, rfl, hc⟩ := h hp
  refine ⟨ad, rfl, fun j u hu => hg.cell (hc j u hu) ?_⟩
  intro e
  have hb : (ad.add j).block = ad.block := by unfold Addr.add; split <;> rfl
  exact hr _ e.symm (by simp [Value.ownBlock, hb])
/-- The rows of two calls lie apart. -/
theorem Own.block {w : World} {base : Nat} {e : TypeId} {v : Value} {xs : List Value} (h : Own w base e v xs) : ∀ k, v.ownBlock = some k → base ≤ k ∧ k < w.heap.size := World.ownsRow.lt h
/-- A literal slice that was just laid. -/
theorem Own.lit (w : World) (base : Nat) (e : TypeId) (cs : Array Value) (hb : base ≤ w.heap.size) (hm : cs.size ≤ maxLen) : Own (w.alloc (.cells cs e)) base e (.slice (some ⟨w.heap.size, 0, none⟩) cs.size cs.size) cs.toList :=
  World.ownsRow_lit w cs cs.size hb hm (by simp)
theorem Ext.grown {w0 w w' : World} {row : Option Nat} (h : Ext w0 w) (hg : w.grownBy w' row) (hr : ∀ k, row = some k → w0.heap.size ≤ k) : Ext w0 w' := Below.grown h hg h.size hr
theorem Own.typed {w : World} {base : Nat} {e : TypeId} {v : Value} {xs : List Value} (h : Own w base e v xs) : ∀ k, v.ownBlock = some k → ∃ cs fr, w.heap[k]? = some (.cells cs e fr) := by
  intro k hk
  rcases h.2 with ⟨rfl, _⟩ | ⟨g, cap, cur, rfl, hb, hh, _⟩
  · cases hk
  · have : g = k := by simpa [Value.ownBlock] using hk
    subst this
    exact ⟨cur, _, hh⟩
theorem Rep.row {w w' : World} {base : Nat} {e : TypeId} {v : Value} {xs : List Value} {T : Tr} {p : Option Addr} (h : Rep w T p) (ho : Own w base e v xs) (he : e ≠ 79) (hg : w.grownBy w' v.ownBlock) : Rep w' T p :=
  Rep.far hg (fun k hk => by obtain ⟨cs, fr, h⟩ := ho.typed k hk; exact ⟨cs, e, fr, h, he⟩) h
def ptrs (ps : List (Option Addr)) : List Value := ps.map fun p => .pointer p
theorem ptrs_length (ps : List (Option Addr)) : (ptrs ps).length = ps.length := by simp [ptrs]
theorem ptrs_append (xs ys : List (Option Addr)) : ptrs xs ++ ptrs ys = ptrs (xs ++ ys) := by simp [ptrs]
theorem ptrs_one (ps : List (Option Addr)) : ∀ u ∈ ptrs ps, u.oneCell' = true := by
  intro u hu; obtain ⟨s, _, rfl⟩ := List.mem_map.1 hu; rfl
theorem ptrs_get (ps : List (Option Addr)) (k : Nat) (h : k < ps.length) : (ptrs ps)[k]? = some (.pointer ps[k]) := by simp [ptrs, List.getElem?_eq_getElem h]
/-- The trees of a list lie at its pointers. -/
def Reps (w : World) (Ts : List Tr) (ps : List (Option Addr)) : Prop := Ts.length = ps.length ∧ ∀ (k : Nat) (T : Tr) (p : Option Addr), Ts[k]? = some T → ps[k]? = some p → Rep w T p
theorem Reps.ext {w w' : World} {Ts ps} (h : Reps w Ts ps) (hx : Ext w w') : Reps w' Ts ps := ⟨h.1, fun k T p h1 h2 => (h.2 k T p h1 h2).ext hx⟩
theorem Reps.row {w w' : World} {base : Nat} {e : TypeId} {v : Value} {xs : List Value} {Ts ps} (h : Reps w Ts ps) (ho : Own w base e v xs) (he : e ≠ 79) (hg : w.grownBy w' v.ownBlock) : Reps w' Ts ps :=
  ⟨h.1, fun k T p h1 h2 => (h.2 k T p h1 h2).row ho he hg⟩
theorem Reps.nil (w : World) : Reps w [] [] := ⟨rfl, fun k T p h => by simp at h⟩
theorem Reps.snoc {w : World} {Ts ps T p} (h : Reps w Ts ps) (hr : Rep w T p) : Reps w (Ts ++ [T]) (ps ++ [p]) := by
  refine ⟨by simp [h.1], fun k A q h1 h2 => ?_⟩
  rcases Nat.lt_trichotomy k Ts.length with hk | hk | hk
  · rw [List.getElem?_append_left hk] at h1
    rw [List.getElem?_append_left (by rw [← h.1]; exact hk)] at h2
    exact h.2 k A q h1 h2
  · subst hk
    rw [List.getElem?_append_right (Nat.le_refl _), Nat.sub_self] at h1
    rw [List.getElem?_append_right (by rw [← h.1]; exact Nat.le_refl _), ← h.1, Nat.sub_self] at h2
    simp at h1 h2
    subst h1; subst h2; exact hr
  · rw [List.getElem?_eq_none (by simp; omega)] at h1; cases h1
theorem Reps.append {w : World} {Ts ps Us qs} (h : Reps w Ts ps) (k : Reps w Us qs) : Reps w (Ts ++ Us) (ps ++ qs) := by
  refine ⟨by simp [h.1, k.1], fun i A q h1 h2 => ?_⟩
  rcases Nat.lt_or_ge i Ts.length with hi | hi
  · rw [List.getElem?_append_left hi] at h1
    rw [List.getElem?_append_left (by rw [← h.1]; exact hi)] at h2
    exact h.2 i A q h1 h2
  · rw [List.getElem?_append_right hi] at h1
    rw [List.getElem?_append_right (by rw [← h.1]; exact hi), ← h.1] at h2
    exact k.2 _ A q h1 h2
theorem Own.lo {w : World} {base : Nat} {e : TypeId} {v : Value} {xs : List Value} (h : Own w base e v xs) : ∀ k, v.ownBlock = some k → base ≤ k := fun k hk => (h.block k hk).1
theorem grownBy_refl (w : World) (row : Option Nat) : w.grownBy w row := ⟨rfl, rfl, rfl, Nat.le_refl _, fun _ _ _ => rfl⟩

section
variable {P : Program}
/-- append(v, s...) on a row of the call's own. -/
theorem run_app {w : World} (base : Nat) (t ty e : TypeId) (z : Value) (bytes : Nat) (ht : P.underlying t = some (.slice e)) (hinfo : (P.info? e).map (fun i => (i.zero, i.size, i.bytes)) = some (some z, 1, bytes)) (hz : z.cells.size = 1) (hb0 : 0 < bytes)
    (v s : Value) (xs news : List Value) (hown : Own w base e v xs) (hs : Reads w s news) (h1 : ∀ u ∈ news, u.oneCell' = true) (hl : (xs.length + news.length) * bytes ≤ 140737488355328) (hbase : base ≤ w.heap.size) :
    ∃ v' w', (Builtin.append_ #[t, t] ty #[v, s]).run P w = .ok v' w' ∧ Own w' base e v' (xs ++ news) ∧ w.grownBy w' v.ownBlock ∧ (v'.ownBlock = v.ownBlock ∨ v'.ownBlock = some w.heap.size) := by
  obtain ⟨i, hi, hzz⟩ := Option.map_eq_some_iff.1 hinfo
  simp only [Prod.mk.injEq] at hzz
  obtain ⟨hz0, hz1, hz2⟩ := hzz
  have hlen : xs.length + news.length ≤ 140737488355328 := Nat.le_trans (Nat.le_mul_of_pos_right _ hb0) hl
  obtain ⟨A, c, rfl, hnil, hc⟩ := hs
  rcases Nat.eq_zero_or_pos news.length with h0 | h0
  · obtain rfl := List.eq_nil_of_length_eq_zero h0
    cases A with
    | none =>
      obtain rfl := hnil rfl
      exact ⟨v, w, run_append_owned_none (P := P) (w := w) base t ty e i 1 ht hi v xs.length xs hown, by simpa using hown, grownBy_refl w _, .inl rfl⟩
    | some ad =>
      obtain ⟨v', w', hr, h2, h3, _, h5⟩ := run_append_own_at (P := P) w base t ty e i z 1 bytes ht hi hz0 hz1 hz2 hz (by omega) v xs.length xs hown ad 0 c [] (by simp) (by simp) (by simp) (by simp only [maxLen]; omega) hl hbase
      exact ⟨v', w', hr, by simpa [Own] using h2, h3, h5⟩
  · obtain ⟨ad, rfl, hc2⟩ := hc h0
    obtain ⟨v', w', hr, h2, h3, _, h5⟩ := run_append_own_at (P := P) w base t ty e i z 1 bytes ht hi hz0 hz1 hz2 hz (by omega) v xs.length xs hown ad news.length c news (by simp) hc2 h1 (by simp only [maxLen]; omega) hl hbase
    exact ⟨v', w', hr, by simpa [Own] using h2, h3, h5⟩

/-- The same at the operation, in a plain region's list and at a step of a region that draws its order. -/
theorem wp_app {w : World} {o : Oper} {a : Act} {K : Act → World → Prop} {Q : Exit → Act → World → Prop} (x y : Operand) (t : TypeId)
    (ho : o.op = .call { callee := .builtin .append, args := #[x, y], argTypes := #[t, t] })
    (base : Nat) (e : TypeId) (z : Value) (bytes : Nat) (ht : P.underlying t = some (.slice e)) (hinfo : (P.info? e).map (fun i => (i.zero, i.size, i.bytes)) = some (some z, 1, bytes)) (hz : z.cells.size = 1) (hb0 : 0 < bytes)
    (v s : Value) (xs news : List Value) (hx : a.eval x = v) (hy : a.eval y = s) (hown : Own w base e v xs) (hs : Reads w s news) (h1 : ∀ u ∈ news, u.oneCell' = true) (hl : (xs.length + news.length) * bytes ≤ 140737488355328) (hbase : base ≤ w.heap.size)
    (h : ∀ v' w', Own w' base e v' (xs ++ news) → w.grownBy w' v.ownBlock → (v'.ownBlock = v.ownBlock ∨ v'.ownBlock = some w.heap.size) → K (a.put o.dst v') w') : o.wp P a w K Q := by
  obtain ⟨v', w', hr, h2, h3, h4⟩ := run_app (P := P) (w := w) base t o.type e z bytes ht hinfo hz hb0 v s xs news hown hs h1 hl hbase
  unfold Oper.wp execOp
  simp only [ho, resolve, invoke, builtin, Sem.run_bind, Sem.run_pure, Result.andThen_ok, List.map_toArray, List.map_cons, List.map_nil, hx, hy, hr]
  exact h v' w' h2 h3 h4
theorem wpList_app {w : World} {ops : Array Oper} {rest : List Oper} {o : Oper} {a : Act} {Q : Exit → Act → World → Prop} (hgd : o.guard = none) (x y : Operand) (t : TypeId)
    (ho : o.op = .call { callee := .builtin .append, args := #[x, y], argTypes := #[t, t] })
    (base : Nat) (e : TypeId) (z : Value) (bytes : Nat) (ht : P.underlying t = some (.slice e)) (hinfo : (P.info? e).map (fun i => (i.zero, i.size, i.bytes)) = some (some z, 1, bytes)) (hz : z.cells.size = 1) (hb0 : 0 < bytes)
    (v s : Value) (xs news : List Value) (hx : a.eval x = v) (hy : a.eval y = s) (hown : Own w base e v xs) (hs : Reads w s news) (h1 : ∀ u ∈ news, u.oneCell' = true) (hl : (xs.length + news.length) * bytes ≤ 140737488355328) (hbase : base ≤ w.heap.size)
    (h : ∀ v' w', Own w' base e v' (xs ++ news) → w.grownBy w' v.ownBlock → (v'.ownBlock = v.ownBlock ∨ v'.ownBlock = some w.heap.size) → wpList P ops Q rest (a.put o.dst v') w') : wpList P ops Q (o :: rest) a w :=
  wpList_plain hgd fun _ hK => wp_app x y t ho base e z bytes ht hinfo hz hb0 v s xs news hx hy hown hs h1 hl hbase fun v' w' h2 h3 h4 => hK _ _ (h v' w' h2 h3 h4)
theorem step_app {w : World} {ops : Array Oper} {o : Oper} {a : Act} {K : Act → World → Prop} {Q : Exit → Act → World → Prop} {E : Prop} (hgd : o.guard = none) (x y : Operand) (t : TypeId)
    (ho : o.op = .call { callee := .builtin .append, args := #[x, y], argTypes := #[t, t] })
    (base : Nat) (e : TypeId) (z : Value) (bytes : Nat) (ht : P.underlying t = some (.slice e)) (hinfo : (P.info? e).map (fun i => (i.zero, i.size, i.bytes)) = some (some z, 1, bytes)) (hz : z.cells.size = 1) (hb0 : 0 < bytes)
    (v s : Value) (xs news : List Value) (hx : a.eval x = v) (hy : a.eval y = s) (hown : Own w base e v xs) (hs : Reads w s news) (h1 : ∀ u ∈ news, u.oneCell' = true) (hl : (xs.length + news.length) * bytes ≤ 140737488355328) (hbase : base ≤ w.heap.size)
    (h : ∀ v' w', Own w' base e v' (xs ++ news) → w.grownBy w' v.ownBlock → (v'.ownBlock = v.ownBlock ∨ v'.ownBlock = some w.heap.size) → K (a.put o.dst v') w') :
    if Region.wanted o (yielded ops a.tmps) = true then Oper.wp P o a w K Q else E := by
  have hw : Region.wanted o (yielded ops a.tmps) = true := by simp [Region.wanted, hgd]
  rw [if_pos hw]
  exact wp_app x y t ho base e z bytes ht hinfo hz hb0 v s xs news hx hy hown hs h1 hl hbase h
end
end Go.Proofs.YtpmmajfdcicjiaaGreat.N
/- The laws' own helpers: comparing, marking and holding results. -/
namespace Go.Proofs.YtpmmajfdcicjiaaGreat.N
open Go.RowKit
set_option linter.unusedVariables false
set_option linter.unusedSimpArgs false

def strs (xs : List ByteArray) : List Value := xs.map fun s => .string s
def ints (xs : List Int) : List Value := xs.map fun n => .int .i64 n
theorem strs_length (xs : List ByteArray) : (strs xs).length = xs.length := by simp [strs]
theorem ints_length (xs : List Int) : (ints xs).length = xs.length := by simp [ints]
theorem strs_one (xs : List ByteArray) : ∀ u ∈ strs xs, u.oneCell' = true := by
  intro u hu; obtain ⟨s, _, rfl⟩ := List.mem_map.1 hu; rfl
theorem ints_one (xs : List Int) : ∀ u ∈ ints xs, u.oneCell' = true := by
  intro u hu; obtain ⟨s, _, rfl⟩ := List.mem_map.1 hu; rfl
theorem strs_append (xs ys : List ByteArray) : strs xs ++ strs ys = strs (xs ++ ys) := by simp [strs]
theorem ints_append (xs ys : List Int) : ints xs ++ ints ys = ints (xs ++ ys) := by simp [ints]
theorem strs_get (xs : List ByteArray) (k : Nat) (h : k < xs.length) : (strs xs)[k]? = some (.string xs[k]) := by simp [strs, List.getElem?_eq_getElem h]
theorem ints_get (xs : List Int) (k : Nat) (h : k < xs.length) : (ints xs)[k]? = some (.int .i64 xs[k]) := by simp [ints, List.getElem?_eq_getElem h]

def mtl : Nat → Nat → List UInt8 → List UInt8
  | 0, _, acc => acc
  | n + 1, k, acc => if k = 0 then acc else mtl n (k / 10) (UInt8.ofNat (48 + k % 10) :: acc)
def mt (k : Nat) : ByteArray := S (109 :: mtl k k [])


/-- A slice of strings (of numbers) of the call's own, and a bool. -/
def GivesLS (w : World) (xs : List ByteArray) (b : Bool) (e : Ending) (w' : World) : Prop := ∃ v, e = .returned (.tuple #[v, .bool b]) ∧ Own w' w.heap.size 9 v (strs xs) ∧ Ext w w'
def GivesLI (w : World) (xs : List Int) (b : Bool) (e : Ending) (w' : World) : Prop := ∃ v, e = .returned (.tuple #[v, .bool b]) ∧ Own w' w.heap.size 3 v (ints xs) ∧ Ext w w'

/-- What is written to mark a result. -/
def marksS (m n : Nat) : List ByteArray := (List.range n).map fun i => mt (m + i)
def marksI (m n : Nat) : List Int := (List.range n).map fun i => ((m + i : Nat) : Int)
theorem marksS_length (m n : Nat) : (marksS m n).length = n := by simp [marksS]
theorem marksI_length (m n : Nat) : (marksI m n).length = n := by simp [marksI]
theorem marksS_get (m n k : Nat) (h : k < n) : (strs (marksS m n))[k]? = some (.string (mt (m + k))) := by simp [strs, marksS, h]
theorem marksI_get (m n k : Nat) (h : k < n) : (ints (marksI m n))[k]? = some (.int .i64 ((m + k : Nat) : Int)) := by simp [ints, marksI, h]

end Go.Proofs.YtpmmajfdcicjiaaGreat.N
