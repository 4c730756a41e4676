import Derived.Test.YtfjhecilkeikiaaBa
import Derived.Test.YtfjhecilkeikiaaPu
import Derived.Test.YtfjhecilkeikiaaSl
import Derived.Test.YtfjhecilkeikiaaProg
import Derived.Test.YtfjhecilkeikiaaTn
import Derived.Test.YtfjhecilkeikiaaTs
import Derived.Test.YtfjhecilkeikiaaPp
import Derived.Test.YtfjhecilkeikiaaPg
import Derived.Test.YtfjhecilkeikiaaPh
import Derived.Test.YtfjhecilkeikiaaWl
import Derived.Test.YtfjhecilkeikiaaTp
import Derived.Test.YtfjhecilkeikiaaTr
import Derived.Test.YtfjhecilkeikiaaTu
import Derived.Test.YtfjhecilkeikiaaTv
import Derived.Test.YtfjhecilkeikiaaTw
import Derived.Test.YtfjhecilkeikiaaTg
import Derived.Test.YtfjhecilkeikiaaTk
import Derived.Test.YtfjhecilkeikiaaCl
import Derived.Test.YtfjhecilkeikiaaAc
import Derived.Test.YtfjhecilkeikiaaAw
import Derived.Deep.LoopGhost
import Derived.Deep.RegionHeld3
import Derived.Deep.QuietTactic
import Derived.StillTailTactics
/- The words of so many letters, each with the conjugate by it, handed to a function at hand: what the program's 'words' does. -/
namespace Go.Proofs.Ytfjhecilkeikiaa.N
open Go.RowKit
set_option linter.unusedVariables false
set_option linter.unusedSimpArgs false

/-! ### Rows that share memory -/
section
variable {P : Program}
/-- An append of one element; the old slice is there still as long as the new one is. -/
theorem run_app_keeps {w : World} (base : Nat) (t ty e : TypeId) (z : Value) (bytes : Nat) (ht : P.underlying t = some (.slice e)) (hinfo : (P.info? e).map (fun i => (i.zero, i.size, i.bytes)) = some (some z, 1, bytes)) (hz : z.cells.size = 1) (hb0 : 0 < bytes)
    (v s : Value) (xs : List Value) (x : Value) (hown : Own w base e v xs) (hs : Reads w s [x]) (h1 : x.oneCell' = true) (hl : (xs.length + 1) * bytes ≤ 140737488355328) (hbase : base ≤ w.heap.size) :
    ∃ v' w', (Builtin.append_ #[t, t] ty #[v, s]).run P w = .ok v' w' ∧ Own w' base e v' (xs ++ [x]) ∧ w.grownBy w' v.ownBlock ∧ (v'.ownBlock = v.ownBlock ∨ v'.ownBlock = some w.heap.size) ∧
      ((∀ w2, Own w2 base e v' (xs ++ [x]) → Own w2 base e v xs) ∨ (v'.ownBlock = some w.heap.size ∧ Own w' base e v xs)) := by
  obtain ⟨v', w', hr, h2, h3, h4⟩ := run_app (P := P) (w := w) base t ty e z bytes ht hinfo hz hb0 v s xs [x] hown hs (by simpa using h1) (by simpa using hl) hbase
  refine ⟨v', w', hr, h2, h3, h4, ?_⟩
  obtain ⟨i, hi, hzz⟩ := Option.map_eq_some_iff.1 hinfo
  simp only [Prod.mk.injEq] at hzz
  obtain ⟨hz0, hz1, hz2⟩ := hzz
  obtain ⟨A, c, rfl, _, hc⟩ := hs
  obtain ⟨ad, rfl, hc2⟩ := hc (by simp)
  rcases hown.2 with ⟨rfl, hn⟩ | ⟨g, cap, cur, rfl, hbg, hg, hnc, hcm, hcs, htake⟩
  · left
    intro w2 _
    rw [List.length_eq_zero_iff] at hn
    subst hn
    exact Own.nil _ _ _
  · by_cases hroom : xs.length + 1 ≤ cap
    · left
      have hr2 := run_append_room (P := P) w t ty e i ht hi g xs.length cap cur hg ad 1 c [x] (by simp [hz1]) hc2 (by simpa using h1) hroom (by rw [hz1, hcs]; simp; omega)
      simp only [List.length_singleton] at hr
      rw [hr2] at hr
      injection hr with hv hw
      subst hv
      intro w2 h
      rcases h.2 with ⟨h, _⟩ | ⟨g', cap', cur', hv', hb', hg', hn', hm', hs', ht'⟩
      · cases h
      · injection hv' with e1 e2 e3
        injection e1 with e1
        injection e1 with e1 _
        subst e1 e3
        refine ⟨by simp, .inr ⟨g, cap, cur', rfl, hb', hg', by omega, hm', hs', ?_⟩⟩
        have := congrArg (List.take xs.length) ht'
        rw [List.take_take] at this
        simp only [List.length_append, List.length_singleton, Nat.mul_one] at this ⊢
        rw [show min xs.length (xs.length + 1) = xs.length by omega] at this
        rw [this]
        simp
    · right
      have holds : ∀ j u, xs[j]? = some u → w.cell? ((⟨g, 0, none⟩ : Addr).add j) = some u := World.ownsRow.cells hown (g := g) rfl
      have hr2 := run_append_grow (P := P) w t ty e i z ht hi hz0 ⟨g, 0, none⟩ xs.length cap xs (by simp [hz1]) holds ad 1 c [x] (by simp [hz1]) hc2 (by omega) (by have := Nat.le_mul_of_pos_right (xs.length + 1) hb0; omega) (growslice_fits (by omega) (by rw [hz2]; exact hl))
      simp only [List.length_singleton] at hr
      rw [hr2] at hr
      injection hr with hv hw
      subst hv hw
      exact ⟨rfl, (hown.ext (Ext.refl w).drew).ext ((Ext.refl _).alloc _)⟩
theorem step_app_keeps {w : World} {ops : Array Oper} {o : Oper} {a : Act} {K : Act → World → Prop} {Q : Exit → Act → World → Prop} {E : Prop} (hgd : o.guard = none) (x y : Operand) (t : TypeId)
    (ho : o.op = .call { callee := .builtin .append, args := #[x, y], argTypes := #[t, t] })
    (base : Nat) (e : TypeId) (z : Value) (bytes : Nat) (ht : P.underlying t = some (.slice e)) (hinfo : (P.info? e).map (fun i => (i.zero, i.size, i.bytes)) = some (some z, 1, bytes)) (hz : z.cells.size = 1) (hb0 : 0 < bytes)
    (v s : Value) (xs : List Value) (u : Value) (hx : a.eval x = v) (hy : a.eval y = s) (hown : Own w base e v xs) (hs : Reads w s [u]) (h1 : u.oneCell' = true) (hl : (xs.length + 1) * bytes ≤ 140737488355328) (hbase : base ≤ w.heap.size)
    (h : ∀ v' w', Own w' base e v' (xs ++ [u]) → w.grownBy w' v.ownBlock → (v'.ownBlock = v.ownBlock ∨ v'.ownBlock = some w.heap.size) → ((∀ w2, Own w2 base e v' (xs ++ [u]) → Own w2 base e v xs) ∨ (v'.ownBlock = some w.heap.size ∧ Own w' base e v xs)) → K (a.put o.dst v') w') :
    if Region.wanted o (yielded ops a.tmps) = true then Oper.wp P o a w K Q else E := by
  have hw : Region.wanted o (yielded ops a.tmps) = true := by simp [Region.wanted, hgd]
  rw [if_pos hw]
  obtain ⟨v', w', hr, h2, h3, h4, h5⟩ := run_app_keeps (P := P) (w := w) base t o.type e z bytes ht hinfo hz hb0 v s xs u hown hs h1 hl hbase
  unfold Oper.wp execOp
  simp only [ho, resolve, invoke, builtin, Sem.run_bind, Sem.run_pure, Result.andThen_ok, List.map_toArray, List.map_cons, List.map_nil, hx, hy, hr]
  exact h v' w' h2 h3 h4 h5
end

/-! ### Worlds in which a box and a row alone were written -/
structure Tch (c : Nat) (row : Option Nat) (w w' : World) : Prop where
  os : w'.os = w.os
  tape : w'.tape = w.tape
  output : w'.output = w.output
  size : w.heap.size ≤ w'.heap.size
  block : ∀ k, k < w.heap.size → k ≠ c → some k ≠ row → w'.heap[k]? = w.heap[k]?
theorem Tch.refl (c row w) : Tch c row w w := ⟨rfl, rfl, rfl, Nat.le_refl _, fun _ _ _ _ => rfl⟩
theorem Tch.ext {c row} {a w w' : World} (h : Tch c row a w) (k : Ext w w') : Tch c row a w' :=
  ⟨k.os.trans h.os, k.tape.trans h.tape, k.output.trans h.output, Nat.le_trans h.size k.size, fun i h1 h2 h3 => (k.block i (Nat.lt_of_lt_of_le h1 h.size)).trans (h.block i h1 h2 h3)⟩
theorem Tch.grown {c row} {a w w' : World} (h : Tch c row a w) (k : w.grownBy w' row) : Tch c row a w' :=
  ⟨k.os.trans h.os, k.tape.trans h.tape, k.output.trans h.output, Nat.le_trans h.size k.size, fun i h1 h2 h3 => (k.block i (Nat.lt_of_lt_of_le h1 h.size) h3).trans (h.block i h1 h2 h3)⟩
/-- Behind it another one whose row is the same one or was not there yet. -/
theorem Tch.trans {c row row2} {a w w' : World} (h : Tch c row a w) (k : Tch c row2 w w') (hr : ∀ i, row2 = some i → row = some i ∨ a.heap.size ≤ i) : Tch c row a w' :=
  ⟨k.os.trans h.os, k.tape.trans h.tape, k.output.trans h.output, Nat.le_trans h.size k.size, fun i h1 h2 h3 => (k.block i (Nat.lt_of_lt_of_le h1 h.size) h2 (fun e => by rcases hr i e.symm with h | h; exact h3 h.symm; omega)).trans (h.block i h1 h2 h3)⟩
theorem Tch.toExt {c row} {w0 a w : World} (h0 : Ext w0 a) (h : Tch c row a w) (hc : w0.heap.size ≤ c) (hr : ∀ i, row = some i → w0.heap.size ≤ i) : Ext w0 w :=
  ⟨h.os.trans h0.os, h.tape.trans h0.tape, h.output.trans h0.output, Nat.le_trans h0.size h.size, fun i h1 => (h.block i (Nat.lt_of_lt_of_le h1 h0.size) (by omega) (fun e => by have := hr i e.symm; omega)).trans (h0.block i h1)⟩
theorem Tch.at_ {c row} {w w' : World} (h : Tch c row w w') {k : Nat} {o : Obj} (hk : w.heap[k]? = some o) (h1 : k ≠ c) (h2 : some k ≠ row) : w'.heap[k]? = some o :=
  (h.block k (Array.getElem?_eq_some_iff.1 hk).1 h1 h2).trans hk
def NotNode (w : World) (k : Nat) : Prop := ∃ cs e fr, w.heap[k]? = some (.cells cs e fr) ∧ e ≠ 126
theorem Rep.tch {w w' : World} {c row} (h : Tch c row w w') (hc : NotNode w c) (hr : ∀ k, row = some k → NotNode w k) : ∀ {T p}, Rep w T p → Rep w' T p
  | .leaf, _, h => h
  | .node _ _, _, ⟨b, pl, pr, e, h0, hl, hr'⟩ => by
    have far : ∀ k, NotNode w k → b ≠ k := by
      rintro k ⟨cs, t, fr, h1, h2⟩ rfl
      rw [h1] at h0
      injection h0 with h0
      injection h0 with _ h3
      exact h2 h3
    exact ⟨b, pl, pr, e, h.at_ h0 (far c hc) (fun e => far b (hr b e.symm) rfl), Rep.tch h hc hr hl, Rep.tch h hc hr hr'⟩
theorem Own.notNode {w : World} {base : Nat} {e : TypeId} {v : Value} {xs : List Value} (h : Own w base e v xs) (he : e ≠ 126) : ∀ k, v.ownBlock = some k → NotNode w k := fun k hk => let ⟨cs, fr, h1⟩ := h.typed k hk; ⟨cs, e, fr, h1, he⟩

/-! ### Runs over words -/
section
variable {σ : Type}
def runL (f : Int → σ → σ × Bool) : List Int → σ → σ × Bool
  | [], s => (s, false)
  | x :: l, s => if (f x s).2 = true then ((f x s).1, true) else runL f l (f x s).1
def runW (g : σ → List Int → Tr × Tr → σ × Bool) : Nat → List Int → Tr × Tr → σ → σ × Bool
  | 0, xs, y, s => g s xs y
  | n + 1, xs, y, s => runL (fun x s => runW g n (xs ++ [x]) (conj y (letP x)) s) lts s
theorem runL_live (live : σ → Prop) (f : Int → σ → σ × Bool) (hf : ∀ x s, live s → (f x s).2 = false → live (f x s).1) : ∀ l s, live s → (runL f l s).2 = false → live (runL f l s).1
  | [], s, h, _ => h
  | x :: l, s, h, h2 => by
    simp only [runL] at h2 ⊢
    cases hb : (f x s).2 with
    | true => rw [hb] at h2; simp at h2
    | false => rw [hb] at h2; simp only [Bool.false_eq_true, if_false] at h2 ⊢; exact runL_live live f hf l _ (hf x s h hb) h2
theorem runW_live (live : σ → Prop) (g : σ → List Int → Tr × Tr → σ × Bool) (hg : ∀ s xs y, live s → (g s xs y).2 = false → live (g s xs y).1) : ∀ n xs y s, live s → (runW g n xs y s).2 = false → live (runW g n xs y s).1
  | 0, xs, y, s, h, h2 => hg s xs y h h2
  | n + 1, xs, y, s, h, h2 => runL_live live _ (fun x s h h2 => runW_live live g hg n _ _ s h h2) lts s h h2

/-- A function at hand that is told words and pairs, and keeps a state in a box. -/
structure Cb (b0 c : Nat) (F : FuncId) (cap : Array Value) (g : σ → List Int → Tr × Tr → σ × Bool) (I : σ → World → Prop) (live : σ → Prop) : Prop where
  run : Run F
  low : c < b0
  box : ∀ s w, I s w → NotNode w c
  stab : ∀ s w w' row, live s → I s w → w.grownBy w' row → (∀ k, row = some k → b0 ≤ k ∧ NotNode w k) → I s w'
  ext : ∀ s w w', I s w → Ext w w' → I s w'
  next : ∀ s xs y, live s → (g s xs y).2 = false → live (g s xs y).1
  call : ∀ s w v xs y pa pb, live s → I s w → Reads w v (ints xs) → xs.length ≤ 10 → Bal y → y.2.carets ≤ 100 → Rep w y.1 pa → Rep w y.2 pb →
    Calls Try.prog F (#[v, .agg #[.pointer pa, .pointer pb]] ++ cap) w fun e w' => e = .returned (.bool (g s xs y).2) ∧ I (g s xs y).1 w' ∧ Tch c none w w'
theorem runW_two (g : σ → List Int → Tr × Tr → σ × Bool) (n : Nat) (xs : List Int) (y : Tr × Tr) (s : σ) : runW g (n + 1) xs y s = runL (fun x s => runW g n (xs ++ [x]) (conj y (letP x)) s) lts s := rfl

theorem lts_get {k : Nat} (h : k < 4) : ∃ x : Int, lts[k]? = some x ∧ (∀ w : World, (Instr.index 110 (.agg #[.int .i64 1, .int .i64 (-1), .int .i64 2, .int .i64 (-2)]) (.int .i64 k)).run Try.prog w = .ok (.int .i64 x) w) ∧ x ≠ 0 ∧ -2 ≤ x ∧ x ≤ 2 := by
  rcases k with _ | _ | _ | _ | k
  · exact ⟨1, rfl, fun _ => by kernel_rfl, by decide, by decide⟩
  · exact ⟨-1, rfl, fun _ => by kernel_rfl, by decide, by decide⟩
  · exact ⟨2, rfl, fun _ => by kernel_rfl, by decide, by decide⟩
  · exact ⟨-2, rfl, fun _ => by kernel_rfl, by decide, by decide⟩
  · omega
set_option maxHeartbeats 1600000 in
theorem letters_calls (w : World) :
    Calls Try.prog 92 #[] w fun e w' => e = .returned (.agg #[.int .i64 1, .int .i64 (-1), .int .i64 2, .int .i64 (-2)]) ∧ Ext w w' := by
  have X0 := Lib.hid ((Ext.refl w).alloc (.cells #[.int .i64 1, .int .i64 (-1), .int .i64 2, .int .i64 (-2)] 110))
  have c0 : ∀ j u, (#[Value.int .i64 1, .int .i64 (-1), .int .i64 2, .int .i64 (-2)] : Array Value)[j]? = some u → (w.alloc (.cells #[.int .i64 1, .int .i64 (-1), .int .i64 2, .int .i64 (-2)] 110)).cell? ⟨w.heap.size, j, none⟩ = some u := by
    intro j u hu
    rw [cell_of_row _ w.heap.size j _ _ (0, 0) (heap_alloc_new w _)]
    exact hu
  have d0 := c0 0 _ rfl
  have d1 := c0 1 _ rfl
  have d2 := c0 2 _ rfl
  have d3 := c0 3 _ rfl
  go_enter Try.func92, Try.ntmps92
  go_wp2_with fail
  exact bodyPost_ret (v := .agg #[.int .i64 1, .int .i64 (-1), .int .i64 2, .int .i64 (-2)]) (by simp [results, Try.results92, go_sem, d0, d1, d2, d3]) rfl ⟨rfl, X0.out⟩

theorem lit_reads (W : World) (x : Int) : Reads (W.alloc (.cells #[.int .i64 x] 3)) (.slice (some ⟨W.heap.size, 0, none⟩) 1 1) [.int .i64 x] := (Own.lit W 0 3 #[.int .i64 x] (Nat.zero_le _) (by show 1 ≤ maxLen; decide)).reads
/-- What stands behind the append, and behind the call that is handed the new row. -/
theorem words_bundle {σ : Type} {b0 c : Nat} {F : FuncId} {cap : Array Value} {g : σ → List Int → Tr × Tr → σ × Bool} {I : σ → World → Prop} {live : σ → Prop} (CB : Cb b0 c F cap g I live)
    {w wr W w4 : World} {v v4 : Value} {xs : List Int} {x : Int} {t : σ} {n : Nat} {o : Obj} {A B : Tr} {pa pb : Option Addr}
    (hG : n ≠ c ∧ some n ≠ v.ownBlock) (hT : Tch c v.ownBlock w wr) (tc : Ext wr W) (hO : Own wr b0 3 v (ints xs)) (hI : I t wr) (hl : live t) (hB : wr.heap[n]? = some o) (hb : b0 ≤ w.heap.size) (rA : Rep wr A pa) (rB : Rep wr B pb)
    (o4 : Own w4 b0 3 v4 (ints xs ++ [.int .i64 x])) (g4 : W.grownBy w4 v.ownBlock) (d4 : v4.ownBlock = v.ownBlock ∨ v4.ownBlock = some W.heap.size)
    (k4 : (∀ w2, Own w2 b0 3 v4 (ints xs ++ [.int .i64 x]) → Own w2 b0 3 v (ints xs)) ∨ (v4.ownBlock = some W.heap.size ∧ Own w4 b0 3 v (ints xs))) :
    I t w4 ∧ w4.heap[n]? = some o ∧ Own w4 b0 3 v4 (ints (xs ++ [x])) ∧ b0 ≤ w4.heap.size ∧
      ∀ w5, Own w5 b0 3 v4 (ints (xs ++ [x])) → Tch c v4.ownBlock w4 w5 → Own w5 b0 3 v (ints xs) ∧ Tch c v.ownBlock w w5 ∧ w5.heap[n]? = some o ∧ Rep w5 A pa ∧ Rep w5 B pb := by
  have e : ints xs ++ [.int .i64 x] = ints (xs ++ [x]) := by simp [ints]
  rw [e] at o4
  have hlow : ∀ k, v.ownBlock = some k → b0 ≤ k := fun k hk => hO.lo k hk
  have T0 : Tch c v.ownBlock wr w4 := ((Tch.refl c v.ownBlock wr).ext tc).grown g4
  have hn4 : w4.heap[n]? = some o := T0.at_ hB hG.1 hG.2
  refine ⟨CB.stab _ _ _ _ hl (CB.ext _ _ _ hI tc) g4 (fun k hk => ⟨hlow k hk, (hO.ext tc).notNode (by decide) k hk⟩), hn4, o4, Nat.le_trans hb (Nat.le_trans hT.size (Nat.le_trans tc.size g4.size)), fun w5 o5 t5 => ?_⟩
  have hr : ∀ i, v4.ownBlock = some i → v.ownBlock = some i ∨ wr.heap.size ≤ i := by
    intro i hi
    rcases d4 with h | h
    · left; rw [← h, hi]
    · right; rw [h] at hi; injection hi with hi; have := tc.size; omega
  have T5 := T0.trans t5 hr
  have hc : ∀ k, v.ownBlock = some k → k ≠ c := fun k hk => by have := hlow k hk; have := CB.low; omega
  refine ⟨?_, hT.trans T5 (fun i h => .inl h), T5.at_ hB hG.1 hG.2, ?_, ?_⟩
  · rcases k4 with h | ⟨h1, h2⟩
    · exact h w5 (by rw [e]; exact o5)
    · refine h2.same fun k hk => t5.block k (h2.block k hk).2 (hc k hk) ?_
      rw [h1]
      intro e2
      injection e2 with e2
      have := (hO.block k hk).2
      have := tc.size
      omega
  · exact rA.tch T5 (CB.box _ _ hI) (hO.notNode (by decide))
  · exact rB.tch T5 (CB.box _ _ hI) (hO.notNode (by decide))
set_option maxHeartbeats 6400000 in
set_option maxRecDepth 100000 in
theorem words_calls {b0 c : Nat} {F : FuncId} {cap : Array Value} {g : σ → List Int → Tr × Tr → σ × Bool} {I : σ → World → Prop} {live : σ → Prop} (CB : Cb b0 c F cap g I live) : ∀ (many : Nat) (xs : List Int) (y : Tr × Tr) (s : σ) (v : Value) (pa pb : Option Addr) (w : World), many ≤ 4 → xs.length + many ≤ 10 → Bal y → y.2.carets + 6 * many ≤ 100 → live s → I s w → Own w b0 3 v (ints xs) → b0 ≤ w.heap.size → Rep w y.1 pa → Rep w y.2 pb →
    Calls Try.prog 63 #[.agg #[.pointer pa, .pointer pb], v, .int .i64 many, .func (.func F) #[] cap] w fun e w' => e = .returned (.bool (runW g many xs y s).2) ∧ I (runW g many xs y s).1 w' ∧ Own w' b0 3 v (ints xs) ∧ Tch c v.ownBlock w w' := by
  intro many
  induction many with
  | zero =>
    intro xs y s v pa pb w _ hx hy hc hl hI hO hb rA rB
    have X0 := Lib.hid ((Ext.refl w).alloc (.cells #[.pointer pa, .pointer pb] 48))
    obtain ⟨c0, c1⟩ := cells_of (heap_alloc_new w (.cells #[.pointer pa, .pointer pb] 48))
    have C1 := Lib.hid (CB.call s (w.alloc (.cells #[.pointer pa, .pointer pb] 48)) v xs y pa pb hl (CB.ext _ _ _ hI X0.out) (hO.reads.ext X0.out) (by omega) hy (by omega) (rA.ext X0.out) (rB.ext X0.out))
    have HO := Lib.hid hO
    have HB : Hid (∀ k, v.ownBlock = some k → k ≠ c) := fun k hk => by have := hO.lo k hk; have := CB.low; omega
    have HR := Lib.hid CB.run
    obtain ⟨r, hr⟩ : ∃ r, g s xs y = r := ⟨_, rfl⟩
    rw [show runW g 0 xs y s = r from hr]
    rw [hr] at C1
    clear hI hO rA rB CB hr
    go_enter Try.func63, Try.ntmps63
    go_wp2_with fail
    rw [HR.out]
    refine C1.out.mono ?_
    rintro e w1 ⟨rfl, i1, t1⟩
    have I1 := Lib.hid i1
    have T1 := Lib.hid t1
    clear i1 t1
    go_wp2_with fail
    go_ret
    refine ⟨rfl, I1.out, ?_, ?_⟩
    · exact (HO.out.ext X0.out).same fun k hk => T1.out.block k ((HO.out.ext X0.out).block k hk).2 (HB.out k hk) (fun e => by cases e)
    · exact ((Tch.refl c _ w).ext X0.out).trans T1.out (fun i e => by cases e)
  | succ many ih =>
    intro xs y s v pa pb w hm hx hy hc hl hI hO hb rA rB
    have X0 := Lib.hid ((Ext.refl w).alloc (.cells #[.pointer pa, .pointer pb] 48))
    have B0 := Lib.hid (heap_alloc_new w (.cells #[.pointer pa, .pointer pb] 48))
    have I0 := Lib.hid (CB.ext _ _ _ hI X0.out)
    have O0 := Lib.hid (hO.ext X0.out)
    have RA := Lib.hid (rA.ext X0.out)
    have RB := Lib.hid (rB.ext X0.out)
    have HB : Hid (∀ k, v.ownBlock = some k → k ≠ c ∧ b0 ≤ k) := fun k hk => by have := hO.lo k hk; have := CB.low; exact ⟨by omega, by omega⟩
    have HX := Lib.hid hx
    have HL := Lib.hid hl
    have HG : Hid (w.heap.size ≠ c ∧ some w.heap.size ≠ v.ownBlock) := ⟨by have := CB.low; omega, fun e => by have := (hO.block _ e.symm).2; omega⟩
    obtain ⟨M, hM⟩ : ∃ M : Int, ((many + 1 : Nat) : Int) = M := ⟨_, rfl⟩
    have hM2 : M ≤ 4 := by omega
    have hM1 : 1 ≤ M := by omega
    have W1 : Hid (M - 1 = (many : Int)) := by show _ = _; omega
    have W2 : Hid (IntKind.i64.wrap (M - 1) = (many : Int)) := by show _ = _; rw [W1.out]; exact wrap_ok (by omega)
    have m0 : (M == 0) = false := by rw [beq_eq_false_iff_ne]; omega
    rw [hM]
    clear hM
    have RW := Lib.hid (runW_two g many xs y s)
    clear hI hO rA rB hl
    go_enter Try.func63, Try.ntmps63
    go_wp2_with fail
    generalize w.alloc (.cells #[.pointer pa, .pointer pb] 48) = W at *
    refine (letters_calls W).mono ?_
    rintro e w1 ⟨rfl, x1⟩
    have T1 := Lib.hid (((Tch.refl c v.ownBlock w).ext X0.out).ext x1)
    have I1 := Lib.hid (CB.ext _ _ _ I0.out x1)
    have O1 := Lib.hid (O0.out.ext x1)
    have B1 := Lib.hid (x1.at B0.out)
    have RA := Lib.hid (RA.out.ext x1)
    have RB := Lib.hid (RB.out.ext x1)
    clear x1 X0 B0 I0 O0
    go_wp2_with fail
    generalize hA : (#[Value.int .i64 1, .int .i64 (-1), .int .i64 2, .int .i64 (-2)] : Array Value) = A at *
    have HA := Lib.hid hA
    clear hA
    go_loopw [18] (fun i wr => ∃ (k : Nat) (t : σ), k ≤ 4 ∧ i = .int .i64 k ∧ Hid (live t) ∧ Hid (runW g (many + 1) xs y s = runL (fun x s => runW g many (xs ++ [x]) (conj y (letP x)) s) (lts.drop k) t) ∧ Hid (I t wr) ∧ Hid (Own wr b0 3 v (ints xs)) ∧ Hid (wr.heap[w.heap.size]? = some (.cells #[.pointer pa, .pointer pb] 48)) ∧ Hid (Rep wr y.1 pa) ∧ Hid (Rep wr y.2 pb) ∧ Hid (Tch c v.ownBlock w wr)) (fun i _ => 4 - (intOf i).toNat)
    case atStart => exact ⟨0, s, by omega, rfl, HL.out, RW.out, I1.out, O1.out, B1.out, RA.out, RB.out, T1.out⟩
    case round =>
      obtain ⟨k, t, hk, rfl, HLt, HRt, HI, HO, HBx, HRA, HRB, HT⟩ := hrel
      obtain ⟨c0, c1⟩ := cells_of HBx.out
      by_cases hlt : k < 4
      · obtain ⟨x, hx1, hx2, hx3, hx4, hx5⟩ := lts_get hlt
        rw [HA.out] at hx2
        have k4 : (k : Int) < 4 := by omega
        have k0 : (0 : Int) ≤ k := by omega
        have DR : Hid (lts.drop k = x :: lts.drop (k + 1)) := by show _ = _; exact (by rw [List.drop_eq_getElem_cons (show k < lts.length from hlt)]; rw [List.getElem?_eq_getElem (show k < lts.length from hlt)] at hx1; injection hx1 with hx1; rw [hx1])
        have CL := Lib.hid (fun W => letter_calls x ⟨hx3, by omega, by omega⟩ W)
        have lb := letP_bal hx3
        have lc := letP_carets hx3
        have CC := Lib.hid (fun l1 l2 W (h : Ext wr W) (g1 : Rep W (letP x).1 l1) (g2 : Rep W (letP x).2 l2) => conjugate_calls y.1 y.2 (letP x).1 (letP x).2 hy lb (by omega) (by omega) pa pb l1 l2 W (HRA.out.ext h) (HRB.out.ext h) g1 g2)
        rw [show ((letP x).1, (letP x).2) = letP x from rfl, show (y.1, y.2) = y from rfl] at CC
        have cc := conj_carets hy lb
        have IH := Lib.hid (fun v' p1 p2 W (h1 : I t W) (h2 : Own W b0 3 v' (ints (xs ++ [x]))) (h3 : b0 ≤ W.heap.size) h4 h5 => ih (xs ++ [x]) (conj y (letP x)) t v' p1 p2 W (by omega) (by simp; omega) (hy.conj lb) (by unfold Bal at hy lb; omega) HLt.out h1 h2 h3 h4 h5)
        generalize hr : runW g many (xs ++ [x]) (conj y (letP x)) t = r at *
        have HR0 := Lib.hid hr
        have CBL : Hid (∀ n xs y s, live s → (runW g n xs y s).2 = false → live (runW g n xs y s).1) := runW_live live g CB.next
        generalize hnp : conj y (letP x) = np at *
        rw [← hnp] at HR0
        clear hnp
        generalize (letP x).1 = L1 at *
        generalize (letP x).2 = L2 at *
        clear hr lb lc cc
        go_wp2_with fail
        have tc := Ext.refl wr
        have LX := Lib.hid hx
        have CC := CC.out
        have KX : ∀ w', Ext wr w' → w'.cell? ⟨w.heap.size, 0, none⟩ = some (.pointer pa) ∧ w'.cell? ⟨w.heap.size, 1, none⟩ = some (.pointer pb) := fun w' h => ⟨h.cell c0, h.cell c1⟩
        go_region_held3 (fun w' => w'.cell? ⟨w.heap.size, 0, none⟩ = some (.pointer pa) ∧ w'.cell? ⟨w.heap.size, 1, none⟩ = some (.pointer pb))
          (first | with_reducible exact KX _ tc | with_reducible exact KX _ tc.drew | with_reducible exact KX _ (tc.alloc _) | with_reducible exact KX _ (tc.alloc _).drew | with_reducible exact cells_of n4 | with_reducible exact cells_of bn5 | fail)
          (first
            | (go_at_call 93; refine (CL.out _).mono ?_; rintro e wl ⟨l1, l2, rfl, rl1, rl2, hx⟩; (first | (with_reducible have tc := tc.drew.trans hx) | (have tc := (tc.alloc (.cells #[.int .i64 x] 3)).drew.trans hx; have rb := ((lit_reads _ x).ext (Ext.refl _).drew).ext hx)))
            | (go_at_call 98; (first | ((with_reducible refine (CC _ _ _ tc rl1 rl2).mono ?_); rintro e wc ⟨p1, p2, rfl, rc1, rc2, hx⟩; have tc := tc.trans hx; (try have rb := rb.ext hx)) | (refine (CC _ _ _ (tc.alloc (.cells #[.int .i64 x] 3)) (rl1.ext ((Ext.refl _).alloc (.cells #[.int .i64 x] 3))) (rl2.ext ((Ext.refl _).alloc (.cells #[.int .i64 x] 3)))).mono ?_; rintro e wc ⟨p1, p2, rfl, rc1, rc2, hx⟩; have tc := (tc.alloc (.cells #[.int .i64 x] 3)).trans hx; have rb := (lit_reads _ x).ext hx)))
            | (go_at_call 63; (first | rw [W2.out] | rw [W1.out]); refine (IH.out _ _ _ _ i4 o4 b4 rc1 rc2).mono ?_; rintro e w5 ⟨rfl, i5, o5, t5⟩; obtain ⟨ow5, tc5, bn5, ra5, rb5⟩ := k4 _ o5 t5)
            | (refine step_app_keeps (by rfl) (.tmp 25) (.tmp 27) 25 (by rfl) b0 3 (.int .i64 0) 8 Try.underlying25 infoInt rfl (by omega) v _ (ints xs) (.int .i64 x) (by rfl) (by rfl) (HO.out.ext tc) rb rfl (by rw [ints_length]; have := LX.out; omega) (Nat.le_trans (Nat.le_trans hb HT.out.size) tc.size) ?_; intro v4 w4 o4 g4 d4 q4; have rc1 := rc1.row (HO.out.ext tc) (by decide) g4; have rc2 := rc2.row (HO.out.ext tc) (by decide) g4; obtain ⟨i4, n4, o4, b4, k4⟩ := words_bundle CB HG.out HT.out tc HO.out HI.out HLt.out HBx.out hb HRA.out HRB.out o4 g4 d4 q4)
            | (refine step_app_keeps (by rfl) (.tmp 25) (.tmp 27) 25 (by rfl) b0 3 (.int .i64 0) 8 Try.underlying25 infoInt rfl (by omega) v _ (ints xs) (.int .i64 x) (by rfl) (by rfl) (HO.out.ext (tc.alloc (.cells #[.int .i64 x] 3))) (lit_reads _ x) rfl (by rw [ints_length]; have := LX.out; omega) (Nat.le_trans (Nat.le_trans hb HT.out.size) (tc.alloc (.cells #[.int .i64 x] 3)).size) ?_; intro v4 w4 o4 g4 d4 q4; have rc1 := (rc1.ext ((Ext.refl _).alloc (.cells #[.int .i64 x] 3))).row (HO.out.ext (tc.alloc (.cells #[.int .i64 x] 3))) (by decide) g4; have rc2 := (rc2.ext ((Ext.refl _).alloc (.cells #[.int .i64 x] 3))).row (HO.out.ext (tc.alloc (.cells #[.int .i64 x] 3))) (by decide) g4; obtain ⟨i4, n4, o4, b4, k4⟩ := words_bundle CB HG.out HT.out (tc.alloc (.cells #[.int .i64 x] 3)) HO.out HI.out HLt.out HBx.out hb HRA.out HRB.out o4 g4 d4 q4)
            | fail)
        all_goals
          have OW := Lib.hid ow5
          have TC := Lib.hid tc5
          have BN := Lib.hid bn5
          have RA5 := Lib.hid ra5
          have RB5 := Lib.hid rb5
          have I5 := Lib.hid i5
          clear ow5 tc5 bn5 ra5 rb5 i5 o5 t5 k4 rc1 rc2 o4 i4 n4
          obtain ⟨r1, r2⟩ := r
          simp only at I5
          have EV : Hid (runW g (many + 1) xs y s = if r2 = true then (r1, true) else runL (fun x s => runW g many (xs ++ [x]) (conj y (letP x)) s) (lts.drop (k + 1)) r1) := by
            show _ = _
            rw [HRt.out, DR.out]
            simp only [runL]
            rw [HR0.out]
          cases r2
          · simp only [Bool.false_eq_true, if_false] at EV
            have LV := Lib.hid (CBL.out _ _ _ _ HLt.out (by rw [HR0.out]))
            rw [HR0.out] at LV
            go_wp2_with fail
            exact ⟨⟨k + 1, r1, by omega, by go_num, LV.out, EV.out, I5.out, OW.out, BN.out, RA5.out, RB5.out, TC.out⟩, by simp [intOf]; omega⟩
          · simp only [if_true] at EV
            go_wp2_with fail
            go_ret
            rw [EV.out]
            exact ⟨rfl, I5.out, OW.out, TC.out⟩
      · have k4 : ¬ (k : Int) < 4 := by omega
        have EV : Hid (runW g (many + 1) xs y s = (t, false)) := by show _ = _; rw [HRt.out, List.drop_eq_nil_of_le (by show 4 ≤ k; omega)]; rfl
        go_wp2_with fail
        go_ret
        rw [EV.out]
        exact ⟨rfl, HI.out, HO.out, HT.out⟩
end
end Go.Proofs.Ytfjhecilkeikiaa.N
