import Derived.Test.YtfjhecilkeikiaaG1RFnExactRootsOf
import Derived.Deep.AppendLies
import Derived.Maps.AppendAt
import Derived.Laws.OwnMore
import Derived.Laws.AppendOwn
import Derived.Laws.AppendOwnNone
import Derived.Laws.MakeOwn
import Derived.Test.YtfjhecilkeikiaaProg
import Derived.LoopTactic
import Derived.Deep.LoopGhost
import Derived.Laws.BytesArg
import Derived.Lib.ConvBytes
/- Slices of one-cell elements: read, owned, appended to. No condition. -/
namespace Go.Proofs.Ytfjhecilkeikiaa.N
open Go.RowKit
set_option linter.unusedVariables false
set_option linter.unusedSimpArgs false

/-- The slice v reads as xs. -/
def Reads (w : World) (v : Value) (xs : List Value) : Prop :=
  ∃ A c, v = .slice A xs.length c ∧ (A = none → c = 0) ∧ (0 < xs.length → ∃ ad, A = some ad ∧ ∀ j u, xs[j]? = some u → w.cell? (ad.add j) = some u)
/-- The slice v reads as xs, and its memory is the call's own, from block 'base' on. -/
def Own (w : World) (base : Nat) (e : TypeId) (v : Value) (xs : List Value) : Prop := w.ownsRow base e 1 v xs.length xs

theorem add_plain (g j : Nat) : (⟨g, 0, none⟩ : Addr).add j = ⟨g, j, none⟩ := by unfold Addr.add; split <;> simp_all
theorem Own.nil (w : World) (base : Nat) (e : TypeId) : Own w base e (.slice none 0 0) [] := ⟨by simp, .inl ⟨rfl, rfl⟩⟩
theorem Own.reads {w : World} {base : Nat} {e : TypeId} {v : Value} {xs : List Value} (h : Own w base e v xs) : Reads w v xs := by
  rcases h.2 with ⟨rfl, h0⟩ | ⟨g, cap, cur, rfl, hb, hh, h1, h2, h3, h4⟩
  · exact ⟨none, 0, by rw [h0], fun _ => rfl, fun hp => by omega⟩
  · refine ⟨_, cap, rfl, (fun h => by cases h), fun _ => ⟨_, rfl, fun j u hu => ?_⟩⟩
    have hj : j < xs.length := (List.getElem?_eq_some_iff.1 hu).1
    have : w.cell? ⟨g, j, none⟩ = xs[j]? := World.ownsRow.cellAt (base := base) (e := e) (size := 1) (n := xs.length) (cap := cap) (xs := xs) h j (by omega)
    rw [add_plain, this, hu]
theorem Reads.ext {w w' : World} {v : Value} {xs : List Value} (h : Reads w v xs) (hx : Ext w w') : Reads w' v xs := by
  obtain ⟨A, c, e, h0, h⟩ := h
  exact ⟨A, c, e, h0, fun hp => let ⟨ad, ea, hc⟩ := h hp; ⟨ad, ea, fun j u hu => hx.cell (hc j u hu)⟩⟩
theorem Ext.grownBy {w w' : World} (h : Ext w w') (row : Option Nat) : w.grownBy w' row := ⟨h.os, h.tape, h.output, h.size, fun i hi _ => h.block i hi⟩
theorem Own.ext {w w' : World} {base : Nat} {e : TypeId} {v : Value} {xs : List Value} (h : Own w base e v xs) (hx : Ext w w') : Own w' base e v xs :=
  World.ownsRow.kept h (hx.grownBy none) (by cases v.ownBlock <;> simp)
theorem row_ext {w w' : World} {base : Nat} {e : TypeId} {sz n : Nat} {v : Value} {xs : List Value} (h : w.ownsRow base e sz v n xs) (hx : Ext w w') : w'.ownsRow base e sz v n xs :=
  World.ownsRow.kept h (hx.grownBy none) (by cases v.ownBlock <;> simp)
theorem Own.mono {w : World} {base base' : Nat} {e : TypeId} {v : Value} {xs : List Value} (h : Own w base e v xs) (hb : base' ≤ base) : Own w base' e v xs := by
  refine ⟨h.1, ?_⟩
  rcases h.2 with h | ⟨g, cap, cur, e1, h1, h2⟩
  · exact .inl h
  · exact .inr ⟨g, cap, cur, e1, by omega, h2⟩
/-- What is written is another block. -/
theorem Own.far {w w' : World} {base : Nat} {e : TypeId} {v : Value} {xs : List Value} {row : Option Nat} (h : Own w base e v xs) (hg : w.grownBy w' row) (hr : ∀ k, row = some k → v.ownBlock ≠ some k) : Own w' base e v xs :=
  World.ownsRow.kept h hg (by
    cases hv : v.ownBlock with
    | none => exact .inl rfl
    | some k => exact .inr fun e => hr k e.symm hv)
theorem Reads.far {w w' : World} {v : Value} {xs : List Value} {row : Option Nat} (h : Reads w v xs) (hg : w.grownBy w' row) (hr : ∀ k, row = some k → v.ownBlock ≠ some k) : Reads w' v xs := by
  obtain ⟨A, c, rfl, h0, h⟩ := h
  refine ⟨A, c, rfl, h0, fun hp => ?_⟩
  obtain ⟨ad, rfl, hc⟩ := h hp
  refine ⟨ad, rfl, fun j u hu => hg.cell (hc j u hu) ?_⟩
  intro e
  have hb : (ad.add j).block = ad.block := by unfold Addr.add; split <;> rfl
  exact hr _ e.symm (by simp [Value.ownBlock, hb])
/-- The rows of two calls lie apart. -/
theorem Own.block {w : World} {base : Nat} {e : TypeId} {v : Value} {xs : List Value} (h : Own w base e v xs) : ∀ k, v.ownBlock = some k → base ≤ k ∧ k < w.heap.size := World.ownsRow.lt h
/-- A literal slice that was just laid. -/
theorem Own.lit (w : World) (base : Nat) (e : TypeId) (cs : Array Value) (hb : base ≤ w.heap.size) (hm : cs.size ≤ maxLen) : Own (w.alloc (.cells cs e)) base e (.slice (some ⟨w.heap.size, 0, none⟩) cs.size cs.size) cs.toList :=
  World.ownsRow_lit w cs cs.size hb hm (by simp)
theorem Ext.grown {w0 w w' : World} {row : Option Nat} (h : Ext w0 w) (hg : w.grownBy w' row) (hr : ∀ k, row = some k → w0.heap.size ≤ k) : Ext w0 w' := Below.grown h hg h.size hr
theorem Own.typed {w : World} {base : Nat} {e : TypeId} {v : Value} {xs : List Value} (h : Own w base e v xs) : ∀ k, v.ownBlock = some k → ∃ cs fr, w.heap[k]? = some (.cells cs e fr) := by
  intro k hk
  rcases h.2 with ⟨rfl, _⟩ | ⟨g, cap, cur, rfl, hb, hh, _⟩
  · cases hk
  · have : g = k := by simpa [Value.ownBlock] using hk
    subst this
    exact ⟨cur, _, hh⟩
theorem Rep.row {w w' : World} {base : Nat} {e : TypeId} {v : Value} {xs : List Value} {T : Tr} {p : Option Addr} (h : Rep w T p) (ho : Own w base e v xs) (he : e ≠ 126) (hg : w.grownBy w' v.ownBlock) : Rep w' T p :=
  Rep.far hg (fun k hk => by obtain ⟨cs, fr, h⟩ := ho.typed k hk; exact ⟨cs, e, fr, h, he⟩) h
def ptrs (ps : List (Option Addr)) : List Value := ps.map fun p => .pointer p
theorem ptrs_length (ps : List (Option Addr)) : (ptrs ps).length = ps.length := by simp [ptrs]
theorem ptrs_append (xs ys : List (Option Addr)) : ptrs xs ++ ptrs ys = ptrs (xs ++ ys) := by simp [ptrs]
theorem ptrs_one (ps : List (Option Addr)) : ∀ u ∈ ptrs ps, u.oneCell' = true := by
  intro u hu; obtain ⟨s, _, rfl⟩ := List.mem_map.1 hu; rfl
theorem ptrs_get (ps : List (Option Addr)) (k : Nat) (h : k < ps.length) : (ptrs ps)[k]? = some (.pointer ps[k]) := by simp [ptrs, List.getElem?_eq_getElem h]
/-- The trees of a list lie at its pointers. -/
def Reps (w : World) (Ts : List Tr) (ps : List (Option Addr)) : Prop := Ts.length = ps.length ∧ ∀ (k : Nat) (T : Tr) (p : Option Addr), Ts[k]? = some T → ps[k]? = some p → Rep w T p
theorem Reps.ext {w w' : World} {Ts ps} (h : Reps w Ts ps) (hx : Ext w w') : Reps w' Ts ps := ⟨h.1, fun k T p h1 h2 => (h.2 k T p h1 h2).ext hx⟩
theorem Reps.row {w w' : World} {base : Nat} {e : TypeId} {v : Value} {xs : List Value} {Ts ps} (h : Reps w Ts ps) (ho : Own w base e v xs) (he : e ≠ 126) (hg : w.grownBy w' v.ownBlock) : Reps w' Ts ps :=
  ⟨h.1, fun k T p h1 h2 => (h.2 k T p h1 h2).row ho he hg⟩
theorem Reps.nil (w : World) : Reps w [] [] := ⟨rfl, fun k T p h => by simp at h⟩
theorem Reps.snoc {w : World} {Ts ps T p} (h : Reps w Ts ps) (hr : Rep w T p) : Reps w (Ts ++ [T]) (ps ++ [p]) := by
  refine ⟨by simp [h.1], fun k A q h1 h2 => ?_⟩
  rcases Nat.lt_trichotomy k Ts.length with hk | hk | hk
  · rw [List.getElem?_append_left hk] at h1
    rw [List.getElem?_append_left (by rw [← h.1]; exact hk)] at h2
    exact h.2 k A q h1 h2
  · subst hk
    rw [List.getElem?_append_right (Nat.le_refl _), Nat.sub_self] at h1
    rw [List.getElem?_append_right (by rw [← h.1]; exact Nat.le_refl _), ← h.1, Nat.sub_self] at h2
    simp at h1 h2
    subst h1; subst h2; exact hr
  · rw [List.getElem?_eq_none (by simp; omega)] at h1; cases h1
theorem Reps.append {w : World} {Ts ps Us qs} (h : Reps w Ts ps) (k : Reps w Us qs) : Reps w (Ts ++ Us) (ps ++ qs) := by
  refine ⟨by simp [h.1, k.1], fun i A q h1 h2 => ?_⟩
  rcases Nat.lt_or_ge i Ts.length with hi | hi
  · rw [List.getElem?_append_left hi] at h1
    rw [List.getElem?_append_left (by rw [← h.1]; exact hi)] at h2
    exact h.2 i A q h1 h2
  · rw [List.getElem?_append_right hi] at h1
    rw [List.getElem?_append_right (by rw [← h.1]; exact hi), ← h.1] at h2
    exact k.2 _ A q h1 h2
theorem Own.lo {w : World} {base : Nat} {e : TypeId} {v : Value} {xs : List Value} (h : Own w base e v xs) : ∀ k, v.ownBlock = some k → base ≤ k := fun k hk => (h.block k hk).1
theorem grownBy_refl (w : World) (row : Option Nat) : w.grownBy w row := ⟨rfl, rfl, rfl, Nat.le_refl _, fun _ _ _ => rfl⟩

section
variable {P : Program}
/-- append(v, s...) on a row of the call's own. -/
theorem run_app {w : World} (base : Nat) (t ty e : TypeId) (z : Value) (bytes : Nat) (ht : P.underlying t = some (.slice e)) (hinfo : (P.info? e).map (fun i => (i.zero, i.size, i.bytes)) = some (some z, 1, bytes)) (hz : z.cells.size = 1) (hb0 : 0 < bytes)
    (v s : Value) (xs news : List Value) (hown : Own w base e v xs) (hs : Reads w s news) (h1 : ∀ u ∈ news, u.oneCell' = true) (hl : (xs.length + news.length) * bytes ≤ 140737488355328) (hbase : base ≤ w.heap.size) :
    ∃ v' w', (Builtin.append_ #[t, t] ty #[v, s]).run P w = .ok v' w' ∧ Own w' base e v' (xs ++ news) ∧ w.grownBy w' v.ownBlock ∧ (v'.ownBlock = v.ownBlock ∨ v'.ownBlock = some w.heap.size) := by
  obtain ⟨i, hi, hzz⟩ := Option.map_eq_some_iff.1 hinfo
  simp only [Prod.mk.injEq] at hzz
  obtain ⟨hz0, hz1, hz2⟩ := hzz
  have hlen : xs.length + news.length ≤ 140737488355328 := Nat.le_trans (Nat.le_mul_of_pos_right _ hb0) hl
  obtain ⟨A, c, rfl, hnil, hc⟩ := hs
  rcases Nat.eq_zero_or_pos news.length with h0 | h0
  · obtain rfl := List.eq_nil_of_length_eq_zero h0
    cases A with
    | none =>
      obtain rfl := hnil rfl
      exact ⟨v, w, run_append_owned_none (P := P) (w := w) base t ty e i 1 ht hi v xs.length xs hown, by simpa using hown, grownBy_refl w _, .inl rfl⟩
    | some ad =>
      obtain ⟨v', w', hr, h2, h3, _, h5⟩ := run_append_own_at (P := P) w base t ty e i z 1 bytes ht hi hz0 hz1 hz2 hz (by omega) v xs.length xs hown ad 0 c [] (by simp) (by simp) (by simp) (by simp only [maxLen]; omega) hl hbase
      exact ⟨v', w', hr, by simpa [Own] using h2, h3, h5⟩
  · obtain ⟨ad, rfl, hc2⟩ := hc h0
    obtain ⟨v', w', hr, h2, h3, _, h5⟩ := run_append_own_at (P := P) w base t ty e i z 1 bytes ht hi hz0 hz1 hz2 hz (by omega) v xs.length xs hown ad news.length c news (by simp) hc2 h1 (by simp only [maxLen]; omega) hl hbase
    exact ⟨v', w', hr, by simpa [Own] using h2, h3, h5⟩

/-- The same at the operation, in a plain region's list and at a step of a region that draws its order. -/
theorem wp_app {w : World} {o : Oper} {a : Act} {K : Act → World → Prop} {Q : Exit → Act → World → Prop} (x y : Operand) (t : TypeId)
    (ho : o.op = .call { callee := .builtin .append, args := #[x, y], argTypes := #[t, t] })
    (base : Nat) (e : TypeId) (z : Value) (bytes : Nat) (ht : P.underlying t = some (.slice e)) (hinfo : (P.info? e).map (fun i => (i.zero, i.size, i.bytes)) = some (some z, 1, bytes)) (hz : z.cells.size = 1) (hb0 : 0 < bytes)
    (v s : Value) (xs news : List Value) (hx : a.eval x = v) (hy : a.eval y = s) (hown : Own w base e v xs) (hs : Reads w s news) (h1 : ∀ u ∈ news, u.oneCell' = true) (hl : (xs.length + news.length) * bytes ≤ 140737488355328) (hbase : base ≤ w.heap.size)
    (h : ∀ v' w', Own w' base e v' (xs ++ news) → w.grownBy w' v.ownBlock → (v'.ownBlock = v.ownBlock ∨ v'.ownBlock = some w.heap.size) → K (a.put o.dst v') w') : o.wp P a w K Q := by
  obtain ⟨v', w', hr, h2, h3, h4⟩ := run_app (P := P) (w := w) base t o.type e z bytes ht hinfo hz hb0 v s xs news hown hs h1 hl hbase
  unfold Oper.wp execOp
  simp only [ho, resolve, invoke, builtin, Sem.run_bind, Sem.run_pure, Result.andThen_ok, List.map_toArray, List.map_cons, List.map_nil, hx, hy, hr]
  exact h v' w' h2 h3 h4
theorem wpList_app {w : World} {ops : Array Oper} {rest : List Oper} {o : Oper} {a : Act} {Q : Exit → Act → World → Prop} (hgd : o.guard = none) (x y : Operand) (t : TypeId)
    (ho : o.op = .call { callee := .builtin .append, args := #[x, y], argTypes := #[t, t] })
    (base : Nat) (e : TypeId) (z : Value) (bytes : Nat) (ht : P.underlying t = some (.slice e)) (hinfo : (P.info? e).map (fun i => (i.zero, i.size, i.bytes)) = some (some z, 1, bytes)) (hz : z.cells.size = 1) (hb0 : 0 < bytes)
    (v s : Value) (xs news : List Value) (hx : a.eval x = v) (hy : a.eval y = s) (hown : Own w base e v xs) (hs : Reads w s news) (h1 : ∀ u ∈ news, u.oneCell' = true) (hl : (xs.length + news.length) * bytes ≤ 140737488355328) (hbase : base ≤ w.heap.size)
    (h : ∀ v' w', Own w' base e v' (xs ++ news) → w.grownBy w' v.ownBlock → (v'.ownBlock = v.ownBlock ∨ v'.ownBlock = some w.heap.size) → wpList P ops Q rest (a.put o.dst v') w') : wpList P ops Q (o :: rest) a w :=
  wpList_plain hgd fun _ hK => wp_app x y t ho base e z bytes ht hinfo hz hb0 v s xs news hx hy hown hs h1 hl hbase fun v' w' h2 h3 h4 => hK _ _ (h v' w' h2 h3 h4)
theorem step_app {w : World} {ops : Array Oper} {o : Oper} {a : Act} {K : Act → World → Prop} {Q : Exit → Act → World → Prop} {E : Prop} (hgd : o.guard = none) (x y : Operand) (t : TypeId)
    (ho : o.op = .call { callee := .builtin .append, args := #[x, y], argTypes := #[t, t] })
    (base : Nat) (e : TypeId) (z : Value) (bytes : Nat) (ht : P.underlying t = some (.slice e)) (hinfo : (P.info? e).map (fun i => (i.zero, i.size, i.bytes)) = some (some z, 1, bytes)) (hz : z.cells.size = 1) (hb0 : 0 < bytes)
    (v s : Value) (xs news : List Value) (hx : a.eval x = v) (hy : a.eval y = s) (hown : Own w base e v xs) (hs : Reads w s news) (h1 : ∀ u ∈ news, u.oneCell' = true) (hl : (xs.length + news.length) * bytes ≤ 140737488355328) (hbase : base ≤ w.heap.size)
    (h : ∀ v' w', Own w' base e v' (xs ++ news) → w.grownBy w' v.ownBlock → (v'.ownBlock = v.ownBlock ∨ v'.ownBlock = some w.heap.size) → K (a.put o.dst v') w') :
    if Region.wanted o (yielded ops a.tmps) = true then Oper.wp P o a w K Q else E := by
  have hw : Region.wanted o (yielded ops a.tmps) = true := by simp [Region.wanted, hgd]
  rw [if_pos hw]
  exact wp_app x y t ho base e z bytes ht hinfo hz hb0 v s xs news hx hy hown hs h1 hl hbase h
end
end Go.Proofs.Ytfjhecilkeikiaa.N
/- The laws' own helpers: comparing, marking and holding results. -/
namespace Go.Proofs.Ytfjhecilkeikiaa.N
open Go.RowKit
set_option linter.unusedVariables false
set_option linter.unusedSimpArgs false

def strs (xs : List ByteArray) : List Value := xs.map fun s => .string s
def ints (xs : List Int) : List Value := xs.map fun n => .int .i64 n
theorem strs_length (xs : List ByteArray) : (strs xs).length = xs.length := by simp [strs]
theorem ints_length (xs : List Int) : (ints xs).length = xs.length := by simp [ints]
theorem strs_one (xs : List ByteArray) : ∀ u ∈ strs xs, u.oneCell' = true := by
  intro u hu; obtain ⟨s, _, rfl⟩ := List.mem_map.1 hu; rfl
theorem ints_one (xs : List Int) : ∀ u ∈ ints xs, u.oneCell' = true := by
  intro u hu; obtain ⟨s, _, rfl⟩ := List.mem_map.1 hu; rfl
theorem strs_append (xs ys : List ByteArray) : strs xs ++ strs ys = strs (xs ++ ys) := by simp [strs]
theorem ints_append (xs ys : List Int) : ints xs ++ ints ys = ints (xs ++ ys) := by simp [ints]
theorem strs_get (xs : List ByteArray) (k : Nat) (h : k < xs.length) : (strs xs)[k]? = some (.string xs[k]) := by simp [strs, List.getElem?_eq_getElem h]
theorem ints_get (xs : List Int) (k : Nat) (h : k < xs.length) : (ints xs)[k]? = some (.int .i64 xs[k]) := by simp [ints, List.getElem?_eq_getElem h]

def mtl : Nat → Nat → List UInt8 → List UInt8
  | 0, _, acc => acc
  | n + 1, k, acc => if k = 0 then acc else mtl n (k / 10) (UInt8.ofNat (48 + k % 10) :: acc)
def mt (k : Nat) : ByteArray := S (109 :: mtl k k [])


theorem conv1 (W : World) (n : Int) : (convert 91 9 (.slice (some ⟨W.heap.size, 0, none⟩) 1 1)).run Try.prog (W.alloc (.cells #[.int .u8 n] 5)) = .ok (.string (S [UInt8.ofNat n.toNat])) (W.alloc (.cells #[.int .u8 n] 5)) := by
  have h := run_convert_bytes_arg (P := Try.prog) (W.alloc (.cells #[.int .u8 n] 5)) 91 5 Try.underlying91 Try.underlying5 W.heap.size 0 1 1 [n] rfl (fun i hi => by
    obtain rfl : i = 0 := by simpa using hi
    go_simp) 9 Try.underlying9
  exact h

set_option maxHeartbeats 1600000 in
set_option maxRecDepth 100000 in
theorem markText_calls (k : Nat) (h1 : 1 ≤ k) (h2 : k < 1000000000) (w : World) :
    Calls Try.prog 44 #[.int .i64 k] w fun e w' => e = .returned (.string (mt k)) ∧ Ext w w' := by
  have b1 : (1 : Int) ≤ k ∧ (k : Int) < 1000000000 := by omega
  have b0 : decide (k = 0) = false := decide_eq_false (by omega)
  go_enter Try.func44, Try.ntmps44
  go_wp2
  go_loopw [0, 3] (fun i o wr => ∃ (n j : Nat) (acc : List UInt8), i = .int .i64 j ∧ o = .string (S acc) ∧ j < 1000000000 ∧ acc.length ≤ 1000000000 - j ∧ mtl n j acc = mtl k k [] ∧ j ≤ n ∧ Ext w wr) (fun i _ _ => (intOf i).toNat)
  case atStart => exact ⟨k, k, [], rfl, rfl, h2, by simp, rfl, Nat.le_refl _, Ext.refl _⟩
  case round =>
    obtain ⟨n, j, acc, rfl, rfl, hj, hlen, hm, hn, hx⟩ := hrel
    have HM := Lib.hid hm
    have HX := Lib.hid hx
    clear hm hx
    cases n with
    | zero =>
      obtain rfl : j = 0 := by omega
      have HE : Hid (mt k = S (109 :: acc)) := by show mt k = _; rw [mt, ← HM.out]; rfl
      have e1 : Hid ((⟨#[109]⟩ : ByteArray) ++ S acc = S (109 :: acc)) := S_append [109] acc
      have z : (S acc).size ≤ 1000000000 := by rw [S_size]; omega
      go_wp2
      go_ret
      exact ⟨by rw [HE.out, ← e1.out]; rfl, HX.out⟩
    | succ n =>
    by_cases hlt : 0 < j
    · have b2 : (0 : Int) < j ∧ (j : Int) < 1000000000 := by omega
      have c1 := conv1 wr (48 + (j : Int) % 10)
      have HM2 : Hid (mtl n (j / 10) (UInt8.ofNat (48 + (j : Int) % 10).toNat :: acc) = mtl k k []) := by
        rw [show (48 + (j : Int) % 10).toNat = 48 + j % 10 from by omega, ← HM.out]; show _ = if j = 0 then _ else _; rw [if_neg (by omega)]
      generalize UInt8.ofNat (48 + (j : Int) % 10).toNat = d at *
      have z : (S acc).size ≤ 1000000000 := by rw [S_size]; omega
      have E := Lib.hid (S_append [d] acc)
      have z2 : (S [d]).size ≤ 1 := by rw [S_size]; exact Nat.le_refl 1
      go_wp2
      go_roundw
      case rel => exact ⟨n, j / 10, d :: acc, by first | rfl | go_num, by rw [E.out]; rfl, by omega, by simp only [List.length_cons]; omega, HM2.out, by omega, HX.out.alloc _⟩
      case measure => simp [intOf]; omega
    · obtain rfl : j = 0 := by omega
      have HE : Hid (mt k = S (109 :: acc)) := by show mt k = _; rw [mt, ← HM.out]; rfl
      have e1 : Hid ((⟨#[109]⟩ : ByteArray) ++ S acc = S (109 :: acc)) := S_append [109] acc
      have z : (S acc).size ≤ 1000000000 := by rw [S_size]; omega
      go_wp2
      go_ret
      exact ⟨by rw [HE.out, ← e1.out]; rfl, HX.out⟩


/-- A slice of strings (of numbers) of the call's own, and a bool. -/
def GivesLS (w : World) (xs : List ByteArray) (b : Bool) (e : Ending) (w' : World) : Prop := ∃ v, e = .returned (.tuple #[v, .bool b]) ∧ Own w' w.heap.size 9 v (strs xs) ∧ Ext w w'
def GivesLI (w : World) (xs : List Int) (b : Bool) (e : Ending) (w' : World) : Prop := ∃ v, e = .returned (.tuple #[v, .bool b]) ∧ Own w' w.heap.size 3 v (ints xs) ∧ Ext w w'

/-- What is written to mark a result. -/
def marksS (m n : Nat) : List ByteArray := (List.range n).map fun i => mt (m + i)
def marksI (m n : Nat) : List Int := (List.range n).map fun i => ((m + i : Nat) : Int)
theorem marksS_length (m n : Nat) : (marksS m n).length = n := by simp [marksS]
theorem marksI_length (m n : Nat) : (marksI m n).length = n := by simp [marksI]
theorem marksS_get (m n k : Nat) (h : k < n) : (strs (marksS m n))[k]? = some (.string (mt (m + k))) := by simp [strs, marksS, h]
theorem marksI_get (m n k : Nat) (h : k < n) : (ints (marksI m n))[k]? = some (.int .i64 ((m + k : Nat) : Int)) := by simp [ints, marksI, h]

set_option maxHeartbeats 1600000 in
theorem eqIntS_calls (xs : List Int) (hn : xs.length < 1000000000) (va vb : Value) (w : World) (ha : Reads w va (ints xs)) (hb : Reads w vb (ints xs)) :
    Calls Try.prog 14 #[va, vb] w fun e w' => e = .returned (.bool true) ∧ ∃ n, w' = w.drewN n := by
  obtain ⟨A, c, rfl, _, ha⟩ := ha
  obtain ⟨B, d, rfl, _, hb⟩ := hb
  rw [ints_length] at *
  have HA := Lib.hid ha
  have HB := Lib.hid hb
  clear ha hb
  go_enter Try.func14, Try.ntmps14
  go_wp2
  go_loopw [5] (fun i wr => ∃ k : Nat, k ≤ xs.length ∧ i = .int .i64 k ∧ ∃ n, wr = w.drewN n) (fun i _ => xs.length - (intOf i).toNat)
  case atStart => exact ⟨0, Nat.zero_le _, rfl, 0, rfl⟩
  case round =>
    obtain ⟨k, hk, rfl, n, rfl⟩ := hrel
    by_cases hlt : k < xs.length
    · obtain ⟨ad, rfl, ca⟩ := HA.out (by omega)
      obtain ⟨bd, rfl, cb⟩ := HB.out (by omega)
      have c1 := ca k _ (ints_get xs k hlt)
      have c2 := cb k _ (ints_get xs k hlt)
      have h0 : (0 : Int) ≤ k := by omega
      have h1 : (k : Int) < xs.length := by omega
      clear ca cb HA HB
      generalize xs[k] = x at *
      go_wp2
      go_quiet (fail)
      go_wp2
      exact ⟨⟨k + 1, by omega, by go_num, _, rfl⟩, by simp [intOf]; omega⟩
    · have h1 : (xs.length : Int) ≤ k := by omega
      go_wp2
      go_ret
      exact ⟨rfl, n, rfl⟩

set_option maxHeartbeats 1600000 in
theorem heldIntS_calls (n m : Nat) (hm : 1 ≤ m) (hn : m + n < 100000000) (v : Value) (w : World) (ha : Reads w v (ints (marksI m n))) :
    Calls Try.prog 16 #[v, .int .i64 m] w fun e w' => e = .returned (.int .i64 ((m + n : Nat) : Int)) ∧ Ext w w' := by
  obtain ⟨A, c, rfl, _, ha⟩ := ha
  rw [ints_length, marksI_length] at *
  have HA := Lib.hid ha
  have b0 : (1 : Int) ≤ m ∧ (m : Int) < 1000000000 := by omega
  clear ha
  go_enter Try.func16, Try.ntmps16
  go_wp2
  go_loopw [5, 1] (fun i q wr => ∃ k : Nat, k ≤ n ∧ i = .int .i64 k ∧ q = .int .i64 ((m + k : Nat) : Int) ∧ Ext w wr) (fun i _ _ => n - (intOf i).toNat)
  case atStart => exact ⟨0, Nat.zero_le _, rfl, rfl, Ext.refl _⟩
  case round =>
    obtain ⟨k, hk, rfl, rfl, HX⟩ := hrel
    have K1 : Hid ((m : Int) + k = ((m + k : Nat) : Int)) := by show _ = _; omega
    have K2 : Hid ((m : Int) + k + 1 = ((m + (k + 1) : Nat) : Int)) := by show _ = _; omega
    by_cases hlt : k < n
    · obtain ⟨ad, rfl, ca⟩ := HA.out (by omega)
      have c0 := ca k _ (marksI_get m n k hlt)
      have h0 : (0 : Int) ≤ k := by omega
      have h1 : (k : Int) < n := by omega
      have h3 : (0 : Int) ≤ (m : Int) + k ∧ (m : Int) + k < 1000000000 := by omega
      clear ca HA
      have c1 := HX.cell c0
      go_wp2
      exact ⟨⟨k + 1, by omega, by go_num, by first | rfl | (rw [K2.out]; rfl) | go_num, HX⟩, by simp [intOf]; omega⟩
    · have h1 : (n : Int) ≤ k := by omega
      obtain rfl : k = n := by omega
      go_wp2
      go_ret
      exact ⟨by first | rfl | (rw [K1.out]; rfl), HX⟩

/-- The marks laid on the first k cells. -/
theorem marksI_step (m k : Nat) (xs : List Value) (hk : k < xs.length) : ((ints (marksI m k)) ++ xs.drop k).set k (.int .i64 ((m + k : Nat) : Int)) = (ints (marksI m (k + 1))) ++ xs.drop (k + 1) := by
  have h1 : (ints (marksI m k)).length = k := by rw [ints_length, marksI_length]
  rw [List.set_append_right _ _ (by omega), h1, Nat.sub_self, List.drop_eq_getElem_cons hk, List.set_cons_zero]
  simp [ints, marksI, List.range_succ]
set_option maxHeartbeats 1600000 in
theorem markIntS_calls (base : Nat) (xs : List Value) (m : Nat) (hm : 1 ≤ m) (hn : m + xs.length < 100000000) (v : Value) (w : World) (ha : Own w base 3 v xs) :
    Calls Try.prog 15 #[v, .int .i64 m] w fun e w' => e = .returned (.int .i64 ((m + xs.length : Nat) : Int)) ∧ Own w' base 3 v (ints (marksI m xs.length)) ∧ w.grownBy w' v.ownBlock := by
  have b0 : (1 : Int) ≤ m ∧ (m : Int) < 1000000000 := by omega
  rcases Nat.eq_zero_or_pos xs.length with hz | hz
  · obtain rfl := List.eq_nil_of_length_eq_zero hz
    obtain ⟨A, c, rfl, _, _⟩ := ha.reads
    have HO := Lib.hid ha
    clear ha
    have q : Hid (Own w base 3 (.slice A 0 c) (ints (marksI m 0))) := HO.out
    go_enter Try.func15, Try.ntmps15
    go_wp2
    go_loopw [5, 1] (fun i q wr => i = .int .i64 0 ∧ q = .int .i64 (m : Int) ∧ wr = w) (fun i _ _ => 0)
    case atStart => exact ⟨rfl, rfl, rfl⟩
    case round =>
      obtain ⟨rfl, rfl, rfl⟩ := hrel
      go_wp2
      go_ret
      exact ⟨rfl, q.out, grownBy_refl _ _⟩
  · obtain ⟨g, c, rfl, hg, hgl⟩ := World.ownsRow.form ha hz
    have HA := Lib.hid ha
    clear ha
    go_enter Try.func15, Try.ntmps15
    go_wp2
    go_loopw [5, 1] (fun i q wr => ∃ k : Nat, k ≤ xs.length ∧ i = .int .i64 k ∧ q = .int .i64 ((m + k : Nat) : Int) ∧ wr.ownsRow base 3 1 (.slice (some ⟨g, 0, none⟩) xs.length c) xs.length ((ints (marksI m k)) ++ xs.drop k) ∧ w.grownBy wr (some g)) (fun i _ _ => xs.length - (intOf i).toNat)
    case atStart => exact ⟨0, Nat.zero_le _, rfl, rfl, HA.out, grownBy_refl _ _⟩
    case round =>
      obtain ⟨k, hk, rfl, rfl, ho, hgr⟩ := hrel
      have HO := Lib.hid ho
      have HG := Lib.hid hgr
      clear ho hgr
      have K1 : Hid ((m : Int) + k = ((m + k : Nat) : Int)) := by show _ = _; omega
      have K2 : Hid ((m : Int) + k + 1 = ((m + (k + 1) : Nat) : Int)) := by show _ = _; omega
      by_cases hlt : k < xs.length
      · have c0 : wr.cell? ⟨g, k, none⟩ = some xs[k] := by
          rw [World.ownsRow.cellAt HO.out k (by omega), List.getElem?_append_right (by rw [ints_length, marksI_length]; exact Nat.le_refl _), ints_length, marksI_length, Nat.sub_self, List.getElem?_drop, Nat.add_zero, List.getElem?_eq_getElem hlt]
        have h0 : (0 : Int) ≤ k := by omega
        have h1 : (k : Int) < xs.length := by omega
        have h3 : (0 : Int) ≤ (m : Int) + k ∧ (m : Int) + k < 1000000000 := by omega
        have ST := Lib.hid (marksI_step m k xs hlt)
        generalize xs[k] = old at *
        have f1 : wr.frozen? ⟨g, k, none⟩ = false := World.ownsRow.frozenAt HO.out k
        obtain ⟨O3, g3⟩ := World.ownsRow.stored HO.out k (.int .i64 ((m + k : Nat) : Int))
        have K3 : Hid ((Value.int .i64 ((m + k : Nat) : Int)) = .int .i64 ((m : Int) + k)) := by show _ = _; rw [← K1.out]
        rw [ST.out, K3.out] at O3
        rw [K3.out] at g3
        have O4 := Lib.hid O3
        have G4 := Lib.hid (World.grownBy.trans (HG.out) g3)
        clear O3 g3
        go_wp2
        exact ⟨⟨k + 1, by omega, by go_num, by first | rfl | (rw [K2.out]; rfl) | go_num, O4.out, G4.out⟩, by simp [intOf]; omega⟩
      · have h1 : (xs.length : Int) ≤ k := by omega
        obtain rfl : k = xs.length := by omega
        have O4 : Hid (Own wr base 3 (.slice (some ⟨g, 0, none⟩) xs.length c) (ints (marksI m xs.length))) := by
          have := HO.out; rw [List.drop_length, List.append_nil] at this
          show World.ownsRow _ _ _ _ _ _ _
          rw [ints_length, marksI_length]; exact this
        go_wp2
        go_ret
        exact ⟨by first | rfl | (rw [K1.out]; rfl), O4.out, HG.out⟩

end Go.Proofs.Ytfjhecilkeikiaa.N
