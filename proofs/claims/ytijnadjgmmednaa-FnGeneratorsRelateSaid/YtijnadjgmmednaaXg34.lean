import Derived.Maps.OwnOps
import Derived.Maps.OwnSet
import Derived.Maps.Views
import Derived.StringKeys
import Derived.Test.YtijnadjgmmednaaXg9
import Derived.Test.YtijnadjgmmednaaXg23
import Derived.Test.YtijnadjgmmednaaXg24
/- A part of the proof: lemmas that later parts use. -/
set_option linter.unusedVariables false
set_option linter.unusedSimpArgs false
namespace Go.Proofs.Ytijnadjgmmednaa.N
open Go.RowKit Go.Maps Go.Proofs.YtijnadjgmmednaaW.PrintWords
abbrev DM := DataW Unit
def keyL (U : Tr) : Lit := .string (tx U).data.toList
theorem keyL_inj {U V : Tr} (h : keyL U = keyL V) : U = V := by
  unfold keyL at h
  injection h with h
  exact tx_inj (ByteArray.ext (Array.toList_inj.1 h))
theorem keyL_is (U : Tr) : WideAt.IsKeyLit (keyL U) := trivial
def MD (D : DM) (K : List Tr) (g : Tr → Nat) : Prop := (∀ U, Maps.has D (keyL U) = true ↔ U ∈ K) ∧ ∀ U, U ∈ K → D.atKey (keyL U) (.lit (.int .i64 0)) = .lit (.int .i64 (g U))
theorem MD.put {D : DM} {K : List Tr} {g g' : Tr → Nat} (h : MD D K g) (hm : Maps.IsMap D) {V : Tr} (hg : ∀ U, U ∈ K → g' U = g U) (hV : ¬ V ∈ K) {n : Int} (hn : n = g' V) : MD (D.put (keyL V) (.lit (.int .i64 n))) (K ++ [V]) g' := by
  refine ⟨fun U => ?_, fun U hU => ?_⟩
  · by_cases e : U = V
    · subst e
      rw [has_put_same hm (keyL_is _)]
      simp
    · rw [has_put_other (fun h' => e (keyL_inj h')), h.1 U]
      simp [e]
  · by_cases e : U = V
    · subst e
      rw [atKey_put_same hm (keyL_is _), hn]
    · rw [atKey_put_other (fun h' => e (keyL_inj h'))]
      have hU : U ∈ K := by
        rcases List.mem_append.1 hU with hU | hU
        · exact hU
        · exact absurd (List.mem_singleton.1 hU) e
      rw [h.2 U hU, hg U hU]
theorem MD.first (A : Tr) : MD ((DataW.map [] : DM).put (keyL A) (.lit (.int .i64 0))) [A] (fun _ => 0) := by
  have h0 : MD (DataW.map [] : DM) [] (fun _ => 0) := ⟨fun U => ⟨fun h => absurd (show (false : Bool) = true from h) (by decide), fun h => by cases h⟩, fun U h => by cases h⟩
  exact h0.put ⟨[], rfl⟩ (fun U h => by cases h) (by simp) rfl
def gput (g : Tr → Nat) (V : Tr) (n : Nat) : Tr → Nat := fun U => if tx U = tx V then n else g U
theorem gput_old {g : Tr → Nat} {V : Tr} {n : Nat} {K : List Tr} (hV : ¬ V ∈ K) : ∀ U, U ∈ K → gput g V n U = g U := fun U hU => if_neg fun e => hV (by rw [← tx_inj e]; exact hU)
theorem gput_new (g : Tr → Nat) (V : Tr) (n : Nat) : gput g V n V = n := if_pos rfl
theorem mapS : Keyed Try.prog 9 := string_keyed Try.underlying9
theorem zeroI (w : World) : (zeroValue 3).run Try.prog w = .ok (.int .i64 0) w := by kernel_rfl
theorem key_tx (U : Tr) (h : U.carets ≤ 1000) : keyOf Try.prog 9 (.string (tx U)) = some (keyL U) := Go.WideMaps.keyOf_string_mk Try.underlying9 (by rw [tx_size]; unfold maxLen; omega)
theorem wpList_insert_own {H : Type} {P : Program} (w : World) {ops : Array Oper} {rest : List Oper} {o : Oper} {a : Act} {Q : Exit → Act → World → Prop}
    (hg : o.guard = none) (m x v : Operand) (t : TypeId) (hop : o.op = Op.insert t m x v)
    (k e : TypeId) (K : Keyed P k) (ht : P.underlying t = some (.map k e)) (R : Value → Option (DataW H × List MemPlace)) (b n : Nat) (D : DataW H)
    (hm : a.eval m = .map (some b)) (hown : w.ownsMap P k R b n D) (hn : n < maxLen) (key val : Value) (kl : Lit) (hx : a.eval x = key) (hv : a.eval v = val) (hkey : keyOf P k key = some kl)
    (d : DataW H) (ps : List MemPlace) (hval : R val = some (d, ps))
    (hK : ∀ w', w'.ownsMap P k R b (n + 1) (D.put kl d) → w.grownBy w' (some b) → wpList P ops Q rest (a.put o.dst undef) w') :
    wpList P ops Q (o :: rest) a w := by
  refine wpList_plain hg fun K' hK' => ?_
  obtain ⟨w', hrun, r1, r2⟩ := hown.update K ht hn hkey hval
  unfold Oper.wp
  simp [execOp, hop, hm, hx, hv, hrun, Result.andThen]
  exact hK' _ _ (hK w' r1 r2)
def OwnQ (w : World) (base : Nat) (e : TypeId) (v : Value) (xs : List Value) : Prop := QRow w base e 1 v xs.length xs
theorem OwnQ.far {w w' : World} {base : Nat} {e : TypeId} {v : Value} {xs : List Value} {row : Option Nat} (h : OwnQ w base e v xs) (hg : w.grownBy w' row) (hr : ∀ k, row = some k → v.ownBlock ≠ some k) : OwnQ w' base e v xs :=
  q_move h fun k hk => hg.block k (q_lt h k hk) fun e => hr k e.symm hk
theorem OwnQ.ext {w w' : World} {base : Nat} {e : TypeId} {v : Value} {xs : List Value} (h : OwnQ w base e v xs) (hx : Ext w w') : OwnQ w' base e v xs :=
  h.far (hx.grownBy none) (fun k e => by cases e)
theorem OwnQ.reads {w : World} {base : Nat} {e : TypeId} {v : Value} {xs : List Value} (h : OwnQ w base e v xs) : ∃ A c, v = .slice A xs.length c ∧ xs.length ≤ c ∧ (0 < xs.length → ∃ ad, A = some ad ∧ ∀ j u, xs[j]? = some u → w.cell? (ad.add j) = some u) := by
  obtain ⟨A, c, rfl, hc⟩ := q_slice h
  exact ⟨A, c, rfl, hc, fun hp => q_cells h hp⟩
theorem OwnQ.tail {w : World} {base : Nat} {e : TypeId} {A : Option Addr} {n c : Nat} {x : Value} {xs : List Value} (h : OwnQ w base e (.slice A n c) (x :: xs)) (hn : n = xs.length + 1) : OwnQ w base e (.slice (if c = 1 then A else A.map (·.add 1)) (n - 1) (c - 1)) xs := by
  subst hn
  have := q_drop (k := 1) (show QRow w base e 1 (.slice A (xs.length + 1) c) (xs.length + 1) (x :: xs) from h) (by omega)
  simpa [OwnQ] using this
theorem Rep.rowQ {w w' : World} {base : Nat} {e : TypeId} {v : Value} {xs : List Value} {T : Tr} {p : Option Addr} (h : Rep w T p) (ho : OwnQ w base e v xs) (he : e ≠ 147) (hg : w.grownBy w' v.ownBlock) : Rep w' T p :=
  Rep.far hg (fun k hk => by obtain ⟨_, cs, h⟩ := q_typed ho k hk; exact ⟨cs, e, _, h, he⟩) h
theorem Reps.rowQ {w w' : World} {base : Nat} {e : TypeId} {v : Value} {xs : List Value} {Ts ps} (h : Reps w Ts ps) (ho : OwnQ w base e v xs) (he : e ≠ 147) (hg : w.grownBy w' v.ownBlock) : Reps w' Ts ps :=
  ⟨h.1, fun k T p h1 h2 => (h.2 k T p h1 h2).rowQ ho he hg⟩
theorem Rep.map {w w' : World} {b : Nat} {es : Array MapEntry} {cl : Nat} (hb : w.heap[b]? = some (.map es cl)) (hg : w.grownBy w' (some b)) : ∀ {T p}, Rep w T p → Rep w' T p
  | .leaf, _, h => h
  | .node _ _, _, ⟨b', pl, pr, e, h0, hl, hr'⟩ => ⟨b', pl, pr, e, (hg.block b' (Array.getElem?_eq_some_iff.1 h0).1 (fun ek => by
      injection ek with ek
      subst ek
      rw [hb] at h0
      injection h0 with h0
      cases h0)).trans h0, Rep.map hb hg hl, Rep.map hb hg hr'⟩
theorem Rep.map' {w w' : World} {b : Nat} {es : Array MapEntry} {cl : Nat} {T : Tr} {p : Option Addr} (h : Rep w T p) (hb : w.heap[b]? = some (.map es cl)) (hg : w.grownBy w' (some b)) : Rep w' T p := Rep.map hb hg h
theorem Reps.map {w w' : World} {b : Nat} {es : Array MapEntry} {cl : Nat} {Ts ps} (h : Reps w Ts ps) (hb : w.heap[b]? = some (.map es cl)) (hg : w.grownBy w' (some b)) : Reps w' Ts ps :=
  ⟨h.1, fun k T p h1 h2 => (h.2 k T p h1 h2).map hb hg⟩
def OwnMap (w : World) (b n : Nat) (D : DM) : Prop := w.ownsMap Try.prog 9 (plainElem Try.prog 3) b n D
theorem OwnMap.obj {w : World} {b n : Nat} {D : DM} (h : OwnMap w b n D) : ∃ es cl, w.heap[b]? = some (.map es cl) := let ⟨es, cl, hb, _⟩ := h; ⟨es, cl, hb⟩
theorem OwnMap.ext {w w' : World} {b n : Nat} {D : DM} (h : OwnMap w b n D) (hx : Ext w w') : OwnMap w' b n D := World.ownsMap.kept h (hx.grownBy none) (by simp)
theorem OwnMap.q {w w' : World} {b n base : Nat} {D : DM} {e : TypeId} {v : Value} {xs : List Value} (h : OwnMap w b n D) (hq : OwnQ w base e v xs) (hg : w.grownBy w' v.ownBlock) : OwnMap w' b n D :=
  World.ownsMap.kept h hg (fun e => by
    obtain ⟨es, cl, hb⟩ := h.obj
    obtain ⟨_, cs, h2⟩ := q_typed hq b e.symm
    rw [hb] at h2
    injection h2 with h2
    cases h2)
theorem OwnQ.map {w w' : World} {b n base : Nat} {D : DM} {e : TypeId} {v : Value} {xs : List Value} (hq : OwnQ w base e v xs) (h : OwnMap w b n D) (hg : w.grownBy w' (some b)) : OwnQ w' base e v xs :=
  hq.far hg (fun k hk e => by
    injection hk with hk
    subst hk
    obtain ⟨es, cl, hb⟩ := h.obj
    obtain ⟨_, cs, h2⟩ := q_typed hq _ e
    rw [hb] at h2
    injection h2 with h2
    cases h2)
theorem Own.map {w w' : World} {b n base : Nat} {D : DM} {e : TypeId} {v : Value} {xs : List Value} (hq : Own w base e v xs) (h : OwnMap w b n D) (hg : w.grownBy w' (some b)) : Own w' base e v xs :=
  hq.far hg (fun k hk e => by
    injection hk with hk
    subst hk
    obtain ⟨es, cl, hb⟩ := h.obj
    obtain ⟨cs, fr, h2⟩ := hq.typed _ e
    rw [hb] at h2
    injection h2 with h2
    cases h2)
theorem wpList_appq {P : Program} {w : World} {ops : Array Oper} {rest : List Oper} {o : Oper} {a : Act} {Q : Exit → Act → World → Prop} (hgd : o.guard = none) (x y : Operand) (t : TypeId)
    (ho : o.op = .call { callee := .builtin .append, args := #[x, y], argTypes := #[t, t] })
    (base : Nat) (e : TypeId) (z : Value) (bytes : Nat) (ht : P.underlying t = some (.slice e)) (hinfo : (P.info? e).map (fun i => (i.zero, i.size, i.bytes)) = some (some z, 1, bytes)) (hz : z.cells.size = 1) (hb0 : 0 < bytes)
    (v s : Value) (xs news : List Value) (hx : a.eval x = v) (hy : a.eval y = s) (hown : OwnQ w base e v xs) (hs : Reads w s news) (h1 : ∀ u ∈ news, u.oneCell' = true) (hp : 0 < news.length) (hl : (xs.length + news.length) * bytes ≤ 140737488355328) (hbase : base ≤ w.heap.size)
    (h : ∀ v' w', OwnQ w' base e v' (xs ++ news) → w.grownBy w' v.ownBlock → (v'.ownBlock = v.ownBlock ∨ ∃ b, v'.ownBlock = some b ∧ w.heap.size ≤ b) → wpList P ops Q rest (a.put o.dst v') w') : wpList P ops Q (o :: rest) a w := by
  refine wpList_plain hgd fun K' hK => ?_
  obtain ⟨i, hi, hzz⟩ := Option.map_eq_some_iff.1 hinfo
  simp only [Prod.mk.injEq] at hzz
  obtain ⟨hz0, hz1, hz2⟩ := hzz
  have hlen : xs.length + news.length ≤ 140737488355328 := Nat.le_trans (Nat.le_mul_of_pos_right _ hb0) hl
  obtain ⟨A, c, rfl, hnil, hc⟩ := hs
  obtain ⟨ad, rfl, hc2⟩ := hc hp
  obtain ⟨v', w', hr, h2, h3, h4⟩ := q_append (P := P) w base t o.type e i z 1 bytes ht hi hz0 hz1 hz2 hz (by omega) v xs.length xs hown ad news.length c news (by simp) hc2 h1 hp (by simp only [maxLen]; omega) hl hbase
  unfold Oper.wp execOp
  simp only [ho, resolve, invoke, builtin, Sem.run_bind, Sem.run_pure, Result.andThen_ok, List.map_toArray, List.map_cons, List.map_nil, hx, hy, hr]
  exact hK _ _ (h v' w' (by simpa [OwnQ] using h2) h3 h4)
end Go.Proofs.Ytijnadjgmmednaa.N
namespace Go.Proofs.Ytijnadjgmmednaa.N
open Go.RowKit Go.Maps Go.Proofs.YtijnadjgmmednaaW.PrintWords
def RDI (A : Tr) (b : Nat) (w : World) (f : Nat) (l : Value) (wr : World) : Prop := ∃ K p g D ps, f + p = 458331 ∧ p ≤ K.length ∧ BF A K p g ∧ MD D K g ∧ OwnMap wr b K.length D ∧ OwnQ wr w.heap.size 80 l (ptrs ps) ∧ Reps wr (K.drop p) ps ∧ Ext w wr
def RDJ (A : Tr) (b : Nat) (w : World) (p : Nat) (H : Tr) (d : Nat) (Us : List Tr) (v : Value) (qs : List (Option Addr)) (j : Nat) (l : Value) (wr : World) : Prop := ∃ K g D ps, BG A K p g (Us.take j) H d ∧ MD D K g ∧ OwnMap wr b K.length D ∧ OwnQ wr w.heap.size 80 l (ptrs ps) ∧ Reps wr (K.drop p) ps ∧ Ext w wr ∧ Own wr 0 80 v (ptrs qs) ∧ Reps wr Us qs ∧ ∀ k, l.ownBlock = some k → v.ownBlock ≠ some k
theorem RDI.start {A : Tr} {b : Nat} {w w4 : World} {pa : Option Addr} {D : DM} (hD : MD D [A] (fun _ => 0)) (hm : OwnMap w4 b 1 D) (hr : Rep w4 A pa) (hx : Ext w w4) :
    RDI A b w 458331 (.slice (some ⟨w4.heap.size, 0, none⟩) 1 1) (w4.alloc (.cells #[.pointer pa] 80)) := by
  have xa := (Ext.refl w4).alloc (.cells #[.pointer pa] 80)
  refine ⟨[A], 0, fun _ => 0, D, [pa], by omega, by simp, BF.first A _ rfl, hD, hm.ext xa, ?_, ?_, hx.trans xa⟩
  · exact q_of_own (Own.lit w4 w.heap.size 80 #[.pointer pa] hx.size (by show 1 ≤ maxLen; decide))
  · exact (Reps.nil _).snoc (hr.ext xa)
theorem RDJ.new {A : Tr} {b : Nat} {w w7 w8 w9 : World} {p d j : Nat} {H V : Tr} {Us : List Tr} {v l v9 : Value} {qs ps : List (Option Addr)} {r : Option Addr} {K : List Tr} {g : Tr → Nat} {D : DM} (hx : Ext w w7)
    (hB : BG A K p g (Us.take j) H d) (hM : MD D K g) (hO : OwnMap w7 b K.length D) (hQ : OwnQ w7 w.heap.size 80 l (ptrs ps)) (hR : Reps w7 (K.drop p) ps)
    (hV : Own w7 0 80 v (ptrs qs)) (hS : Reps w7 Us qs) (hsep : ∀ k, l.ownBlock = some k → v.ownBlock ≠ some k) (rV : Rep w7 V r) (hn : V ∈ near0 H) (hVK : ¬ V ∈ K) (ht : Us.take (j + 1) = Us.take j ++ [V])
    (own8 : w8.ownsMap Try.prog 9 (plainElem Try.prog 3) b (K.length + 1) (D.put (keyL V) (.lit (.int .i64 ((d : Int) + 1))))) (gr8 : w7.grownBy w8 (some b)) (hb : w.heap.size ≤ b)
    (q9 : OwnQ w9 w.heap.size 80 v9 (ptrs ps ++ ptrs [r])) (g9 : (w8.alloc (.cells #[.pointer r] 80)).grownBy w9 l.ownBlock) (at9 : v9.ownBlock = l.ownBlock ∨ ∃ k, v9.ownBlock = some k ∧ (w8.alloc (.cells #[.pointer r] 80)).heap.size ≤ k) :
    RDJ A b w p H d Us v qs (j + 1) v9 w9 := by
  have xa := (Ext.refl w8).alloc (.cells #[.pointer r] 80)
  have Q8 := (hQ.map hO gr8).ext xa
  obtain ⟨es, cl, ho⟩ := hO.obj
  have hpK : p ≤ K.length := Nat.le_of_lt (List.getElem?_eq_some_iff.1 hB.head).1
  have V8 := (hV.map hO gr8).ext xa
  refine ⟨K ++ [V], gput g V (d + 1), D.put (keyL V) (.lit (.int .i64 ((d : Int) + 1))), ps ++ [r], ?_, ?_, ?_, ?_, ?_, ?_, ?_, ?_, ?_⟩
  · rw [ht]; exact hB.new hVK hn (gput_old hVK) (gput_new _ _ _)
  · exact hM.put hO.isMap (gput_old hVK) hVK (by rw [gput_new]; omega)
  · rw [List.length_append, List.length_singleton]
    exact (OwnMap.ext own8 xa).q Q8 g9
  · rw [← ptrs_append]; exact q9
  · rw [List.drop_append_of_le_length hpK]
    exact (((hR.map ho gr8).ext xa).rowQ Q8 (by decide) g9).snoc (((rV.map' ho gr8).ext xa).rowQ Q8 (by decide) g9)
  · exact ((hx.grown gr8 (fun k hk => by injection hk with hk; omega)).trans xa).grown g9 (fun k hk => (q_typed Q8 k hk).1)
  · exact V8.far g9 (fun k hk => hsep k hk)
  · exact ((hS.map ho gr8).ext xa).rowQ Q8 (by decide) g9
  · intro k hk e
    rcases at9 with h | ⟨k', h, hk'⟩
    · exact hsep k (h ▸ hk) e
    · rw [hk] at h
      injection h with h
      subst h
      have := (V8.block _ e).2
      omega
set_option maxHeartbeats 6400000 in
set_option maxRecDepth 100000 in
theorem RotationDistance_yes (A B : Tr) (hc : A.carets = B.carets) (h5 : B.carets ≤ 5) (w : World) :
    Calls Try.prog 39 #[.string (tx A), .string (tx B)] w fun e w' => ∃ k : Nat, e = .returned (.tuple #[.int .i64 k, .bool true]) ∧ Hid (Dist A B k) ∧ Ext w w' := by
  have hmm := @run_makeMap Try.prog
  have HC := Lib.hid (And.intro hc h5)
  have CP := Lib.hid (fun W => pairOf_yes A B hc (by omega) W)
  have KA := Lib.hid (key_tx A (by omega))
  have KB := Lib.hid (key_tx B (by omega))
  have A5 : (A.carets : Int) ≤ 5 := by omega
  clear hc h5
  go_enter Try.func39, Try.ntmps39
  go_wp2_with fail
  refine (CP.out _).mono ?_
  rintro e w1 ⟨pa, pb, rfl, ra, rb, x1⟩
  have X2 := x1.alloc (.cells #[.pointer pa, .pointer pb] 82)
  have B0 := heap_alloc_new w1 (.cells #[.pointer pa, .pointer pb] 82)
  obtain ⟨c0, c1⟩ := cells_of B0
  have RA := Lib.hid (ra.ext ((Ext.refl w1).alloc (.cells #[.pointer pa, .pointer pb] 82)))
  have X2 := Lib.hid X2
  clear ra rb x1 B0
  go_wp2_with fail
  generalize w1.alloc (.cells #[.pointer pa, .pointer pb] 82) = w2 at *
  refine (carets_calls A pa _ (by have := HC.out; omega) RA.out).mono ?_
  rintro e w3 ⟨rfl, n3, rfl⟩
  have c0' : (w2.drewN n3).cell? ⟨w1.heap.size, 0, none⟩ = some (.pointer pa) := c0
  have RA3 := Lib.hid (RA.out.ext ((Ext.refl _).drewN n3))
  have X3 := Lib.hid (X2.out.drewN n3)
  clear c0 c1
  generalize w2.drewN n3 = w3 at *
  have BL : Hid (w1.heap.size < w3.heap.size) := World.block_lt_of_cell? _ _ c0'
  have M0 : Hid (OwnMap (w3.alloc (.map #[] 0)) w3.heap.size 0 (DataW.map [])) := World.ownsMap_made _ _ _ _
  have X4 := Lib.hid (X3.out.alloc (.map #[] 0))
  have RA4 := Lib.hid (RA3.out.ext ((Ext.refl _).alloc (.map #[] 0)))
  have d0 := ((Ext.refl w3).alloc (.map #[] 0)).cell c0'
  clear c0'
  go_wp2_with (first | (refine wpList_insert_own _ rfl (.tmp 33) (.tmp 34) (.const (.int .i64 0)) 129 rfl 9 3 mapS Try.underlying129 _ w3.heap.size 0 _ rfl M0.out (by decide) _ _ _ rfl rfl KA.out _ [] (plainElem_int Try.underlying3 (by decide)) ?_; intro w4 own4 gr4; have e0 := gr4.cell d0 (fun e => by injection e with e; exact absurd e (Nat.ne_of_lt BL.out))))
  have hb3 : w.heap.size ≤ w3.heap.size := X3.out.size
  have XX : Hid (Ext w w4) := X4.out.grown gr4 (fun k hk => by injection hk with hk; omega)
  have HI : Hid (RDI A w3.heap.size w 458331 (.slice (some ⟨w4.heap.size, 0, none⟩) 1 1) (w4.alloc (.cells #[.pointer pa] 80))) :=
    RDI.start (MD.first A) own4 (by obtain ⟨es, cl, ho⟩ := M0.out.obj; exact RA4.out.map' ho gr4) XX.out
  have HB := Lib.hid hb3
  generalize w3.heap.size = b at *
  clear own4 gr4 e0 d0 hb3
  generalize w4.alloc (.cells #[.pointer pa] 80) = W at *
  go_loopg [9] 458331 (fun f l wr => Hid (RDI A b w f l wr))
  case atStart => exact HI.out
  case round =>
    obtain ⟨K, p, g, D, ps, hf, hp, hB, hM, hO, hQ, hR, hX⟩ := hrel.out
    clear hrel HI
    obtain ⟨A0, cp, el, hcc, rd⟩ := hQ.reads
    subst el
    have hl : ps.length = K.length - p := by have := hR.1; rw [List.length_drop] at this; exact this.symm
    have K5 : ∀ U ∈ K, U.carets ≤ 5 := fun U hU => by rw [hB.carets hU]; have := HC.out; omega
    have KL : K.length ≤ 458330 := few hB.nodup K5
    by_cases hlt : p < K.length
    · obtain ⟨q, ps', rfl⟩ : ∃ q ps', ps = q :: ps' := by
        cases ps with
        | nil => simp at hl; omega
        | cons q ps' => exact ⟨q, ps', rfl⟩
      obtain ⟨H, eH⟩ : ∃ H, K[p] = H := ⟨_, rfl⟩
      have hH : (K.drop p)[0]? = some H := by rw [List.getElem?_drop, ← eH]; simp [List.getElem?_eq_getElem hlt]
      have hHK : H ∈ K := eH ▸ List.getElem_mem hlt
      have BG0 := hB.open_ hlt
      rw [eH] at BG0
      clear eH
      have rH := hR.2 0 H q hH rfl
      obtain ⟨ad, rfl, ca⟩ := rd (by rw [ptrs_length]; simp)
      have hc0 : wr.cell? ad = some (.pointer q) := by have := ca 0 (.pointer q) rfl; rwa [show ad.add 0 = ad by simp [Addr.add]] at this
      have hH5 := K5 _ hHK
      have hat0 := hM.2 _ hHK
      have KH := Lib.hid (key_tx H (by omega))
      have TC := Lib.hid (fun W (h : Rep W H q) => text_calls H q W (by omega) h)
      have NC := Lib.hid (fun W (h : Rep W H q) => neighbours_calls H (by omega) q W h)
      have dB := dist_bound (hB.right _ hHK)
      have d50 : g H ≤ 50 := by
        have h1 : A.carets ≤ 5 := by have := HC.out; omega
        have := Nat.mul_le_mul h1 h1
        omega
      have NS : Hid (∀ s, s ∈ nearS H ↔ ∃ U, U ∈ near0 H ∧ tx U = s) := fun s => nearS_mem
      have NL := Lib.hid (nearS_length H)
      replace hH5 := Lib.hid hH5
      replace BG0 := Lib.hid BG0
      replace hat0 := Lib.hid hat0
      replace rH := Lib.hid rH
      replace hM := Lib.hid hM
      replace hO := Lib.hid hO
      replace hQ := Lib.hid hQ
      replace hR := Lib.hid hR
      replace hX := Lib.hid hX
      replace hf := Lib.hid (And.intro hf hlt)
      clear rd ca hp hB hH hHK K5 dB hl hlt
      generalize hn : (ptrs (q :: ps')).length = n at *
      replace hn : n = ps'.length + 1 := by rw [← hn, ptrs_length]; rfl
      have n0 : (0 : Int) < n := by omega
      replace hn := Lib.hid hn
      generalize htH : tx H = tH at *
      generalize hd : g H = d at *
      replace hd := Lib.hid hd
      replace htH := Lib.hid htH
      go_wp2_with fail
      refine (TC.out wr rH.out).mono ?_
      rintro e w5 ⟨rfl, n5, rfl⟩
      have xd := (Ext.refl wr).drewN n5
      replace hc0 := xd.cell hc0
      replace rH := Lib.hid (rH.out.ext xd)
      replace hO := Lib.hid (hO.out.ext xd)
      replace hQ := Lib.hid (hQ.out.ext xd)
      replace hR := Lib.hid (hR.out.ext xd)
      replace hX := Lib.hid (hX.out.trans xd)
      clear xd
      generalize wr.drewN n5 = wr5 at *
      go_wp2_with (first
        | (at_lookup; refine wpList_lookup_own_int _ rfl _ _ 129 rfl 9 3 .i64 mapS Try.underlying129 Try.underlying3 (zeroI _) b K.length _ rfl hO.out _ _ rfl KH.out ?_; intro c hat hwc))
      obtain rfl : (d : Int) = c := by
        have := hat0.out.symm.trans hat
        injection this with this
        injection this
      clear hat hwc
      refine (NC.out wr5 rH.out).mono ?_
      rintro e w6 ⟨v6, Us, qs, rfl, o6, r6, hu, huc, x6⟩
      obtain ⟨Av, qv, rfl, _, _⟩ := o6.reads
      have hsep : ∀ k, (Value.slice (some ad) n cp).ownBlock = some k → (Value.slice Av (ptrs qs).length qv).ownBlock ≠ some k := fun k hk e => by
        have h1 := q_lt hQ.out k hk
        have h2 := (o6.block k e).1
        omega
      have hml : (ptrs qs).length = Us.length := by rw [ptrs_length]; exact r6.1.symm
      have US : Hid ((∀ U ∈ Us, U ∈ near0 H) ∧ ∀ V ∈ near0 H, V ∈ Us) := by
        refine ⟨fun U hU => ?_, fun V hV => ?_⟩
        · have : tx U ∈ nearS H := hu ▸ List.mem_map_of_mem hU
          obtain ⟨V, hV, e⟩ := (NS.out _).1 this
          exact tx_inj e ▸ hV
        · have : tx V ∈ nearS H := (NS.out _).2 ⟨V, hV, rfl⟩
          rw [← hu] at this
          obtain ⟨U, hU, e⟩ := List.mem_map.1 this
          exact tx_inj e ▸ hU
      have UL : Us.length ≤ 4 := by
        have := congrArg List.length hu
        rw [List.length_map, NL.out] at this
        have := hH5.out
        omega
      have HJ : Hid (RDJ A b w p H d Us (.slice Av (ptrs qs).length qv) qs 0 (.slice (some ad) n cp) w6) :=
        ⟨K, g, D, q :: ps', by rw [List.take_zero]; exact hd.out ▸ BG0.out, hM.out, hO.out.ext x6, hQ.out.ext x6, hR.out.ext x6, hX.out.trans x6, o6.mono (Nat.zero_le _), r6, hsep⟩
      replace r6 := Lib.hid r6
      clear o6 hu x6 hsep hc0 rH hO hQ hR hX hM NS NC BG0 hat0 TC
      generalize (ptrs qs).length = m at *
      have hml := Lib.hid hml
      go_wp2_with fail
      go_loopw [55, 9] (fun i l wr => ∃ j : Nat, j ≤ m ∧ i = .int .i64 j ∧ Hid (RDJ A b w p H d Us (.slice Av m qv) qs j l wr)) (fun i _ _ => m - (intOf i).toNat)
      case atStart => exact ⟨0, Nat.zero_le _, rfl, HJ.out⟩
      case round =>
        obtain ⟨j, hj, rfl, HR⟩ := hrel
        obtain ⟨K, g, D, ps, hB, hM, hO, hQ, hR, hX, hV, hS, hsep⟩ := HR.out
        clear HR HJ
        have K5 : ∀ U ∈ K, U.carets ≤ 5 := fun U hU => by rw [hB.carets hU]; have := HC.out; omega
        have KL : K.length ≤ 458330 := few hB.nodup K5
        have hlp : ps.length = K.length - p := by have := hR.1; rw [List.length_drop] at this; exact this.symm
        have hpK : p < K.length := (List.getElem?_eq_some_iff.1 hB.head).1
        by_cases hjm : j < m
        · have hjU : j < Us.length := by have := hml.out; omega
          have hjq : j < qs.length := by have := hS.1; omega
          obtain ⟨V, eV⟩ : ∃ V, Us[j] = V := ⟨_, rfl⟩
          obtain ⟨r, er⟩ : ∃ r, qs[j] = r := ⟨_, rfl⟩
          have hVn : V ∈ near0 H := US.out.1 V (eV ▸ List.getElem_mem hjU)
          have rV : Rep wr V r := hS.2 j V r (by rw [List.getElem?_eq_getElem hjU, eV]) (by rw [List.getElem?_eq_getElem hjq, er])
          have htake : Us.take (j + 1) = Us.take j ++ [V] := by rw [List.take_add_one, List.getElem?_eq_getElem hjU, eV]; rfl
          have hV0 := hV
          obtain ⟨Ax, cx, e1, _, rd⟩ := hV.reads
          clear hV
          obtain ⟨ad2, e2, ca⟩ := rd (by rw [ptrs_length]; omega)
          injection e1 with e3 e4 e5
          subst e3 e5
          subst e2
          clear e4 rd
          have hcj := ca j (.pointer r) (by rw [ptrs_get qs j hjq, er])
          have V5 : V.carets ≤ 5 := by rw [near_carets hVn]; exact hH5.out
          have KV := Lib.hid (key_tx V (by omega))
          have TC := Lib.hid (fun W (h : Rep W V r) => text_calls V r W (by omega) h)
          have g0 : (0 : Int) ≤ j := by omega
          have g1 : (j : Int) < m := by omega
          clear ca eV er K5
          have hMm := hM.1 V
          generalize htV : tx V = tV at *
          replace htV := Lib.hid htV
          replace hVn := Lib.hid hVn
          replace rV := Lib.hid rV
          replace htake := Lib.hid htake
          replace hB := Lib.hid hB
          replace hM := Lib.hid hM
          replace hO := Lib.hid hO
          replace hQ := Lib.hid hQ
          replace hR := Lib.hid hR
          replace hX := Lib.hid hX
          replace hV0 := Lib.hid hV0
          replace hS := Lib.hid hS
          replace hsep := Lib.hid hsep
          replace hMm := Lib.hid hMm
          replace V5 := Lib.hid V5
          replace KL := Lib.hid (And.intro KL (And.intro hlp (And.intro hpK (And.intro hjU hjq))))
          clear hlp hpK hjU hjq
          go_wp2_with fail
          refine (TC.out wr rV.out).mono ?_
          rintro e w7 ⟨rfl, n7, rfl⟩
          have xd := (Ext.refl wr).drewN n7
          replace rV := Lib.hid (rV.out.ext xd)
          replace hO := Lib.hid (hO.out.ext xd)
          replace hQ := Lib.hid (hQ.out.ext xd)
          replace hR := Lib.hid (hR.out.ext xd)
          replace hX := Lib.hid (hX.out.trans xd)
          replace hV0 := Lib.hid (hV0.out.ext xd)
          replace hS := Lib.hid (hS.out.ext xd)
          clear xd hcj
          generalize wr.drewN n7 = w7 at *
          by_cases hVK : V ∈ K
          · have hh : Maps.has D (keyL V) = true := hMm.out.2 hVK
            have hVK := Lib.hid hVK
            go_wp2_with (first
              | (at_lookup; refine wpList_lookup_own_ok_int _ rfl _ _ 129 rfl 9 3 .i64 mapS Try.underlying129 Try.underlying3 (zeroI _) b K.length _ rfl hO.out _ _ rfl KV.out ?_; intro c hat hwc; rw [hh]))
            exact ⟨⟨j + 1, by omega, by go_num, K, g, D, ps, by rw [htake.out]; exact hB.out.old hVK.out, hM.out, hO.out, hQ.out, hR.out, hX.out, hV0.out, hS.out, hsep.out⟩, by simp [intOf]; omega⟩
          · have hh : Maps.has D (keyL V) = false := by
              cases h : Maps.has D (keyL V)
              · rfl
              · exact absurd (hMm.out.1 h) hVK
            have hVK := Lib.hid hVK
            have WF : Hid ((Lit.int .i64 ((d : Int) + 1)).wf = true) := by
              show _ = _
              simp only [Lit.wf, IntKind.min, IntKind.max, IntKind.signed, IntKind.bits, Bool.and_eq_true, decide_eq_true_eq]
              constructor <;> (simp; omega)
            have HV : Hid (plainElem (H := Unit) Try.prog 3 (.int .i64 ((d : Int) + 1)) = some (.lit (.int .i64 ((d : Int) + 1)), [])) := plainElem_int Try.underlying3 WF.out
            have LT : Hid (((ptrs ps).length + (ptrs [r]).length) * 8 ≤ 140737488355328) := by have := KL.out; show _ ≤ _; rw [ptrs_length, ptrs_length]; simp only [List.length_singleton]; omega
            have KM : Hid (K.length < maxLen) := by have := KL.out; show _ < _; unfold maxLen; omega
            go_wp2_with (first
              | (at_lookup; refine wpList_lookup_own_ok_int _ rfl _ _ 129 rfl 9 3 .i64 mapS Try.underlying129 Try.underlying3 (zeroI _) b K.length _ rfl hO.out _ _ rfl KV.out ?_; intro c hat hwc; rw [hh])
              | (at_mapUpdate; refine wpList_mapUpdate_own _ rfl _ _ _ 129 rfl 9 3 mapS Try.underlying129 _ b K.length _ rfl hO.out KM.out _ _ _ rfl rfl KV.out (.lit (.int .i64 ((d : Int) + 1))) [] HV.out ?_; intro w8 own8 gr8;
                 have Q8 := (hQ.out.map hO.out gr8).ext ((Ext.refl w8).alloc (.cells #[.pointer r] 80));
                 have RL : Hid (Reads (w8.alloc (.cells #[.pointer r] 80)) (.slice (some ⟨w8.heap.size, 0, none⟩) 1 1) (ptrs [r])) := (Own.lit w8 0 80 #[.pointer r] (Nat.zero_le _) (by show 1 ≤ maxLen; decide)).reads;
                 have X8 := Lib.hid ((hX.out.grown gr8 (fun k hk => by injection hk with hk; have := HB.out; omega)).alloc (.cells #[.pointer r] 80));
                 have B8 := Lib.hid X8.out.size)
              | (at_builtin; refine wpList_appq rfl (.tmp 73) (.tmp 75) 121 rfl w.heap.size 80 (.pointer none) 8 Try.underlying121 infoNode rfl (by omega) _ _ _ (ptrs [r]) rfl rfl Q8 RL.out (ptrs_one _) (by simp [ptrs]) LT.out B8.out ?_; intro v9 w9 q9 g9 at9))
            exact ⟨⟨j + 1, by omega, by go_num, RDJ.new hX.out hB.out hM.out hO.out hQ.out hR.out hV0.out hS.out hsep.out rV.out hVn.out hVK.out htake.out own8 gr8 HB.out q9 g9 at9⟩, by simp [intOf]; omega⟩
        · obtain rfl : j = m := by omega
          have g1 : (j : Int) ≤ j := Int.le_refl _
          have BX := hB.shut (fun V hV => by rw [List.take_of_length_le (by have := hml.out; omega)]; exact US.out.2 V hV)
          obtain ⟨Al, cl, el, hcl, _⟩ := hQ.reads
          subst el
          obtain ⟨q', ps2, rfl⟩ : ∃ q ps', ps = q :: ps' := by
            cases ps with
            | nil => simp at hlp; omega
            | cons q ps' => exact ⟨q, ps', rfl⟩
          have hQt := OwnQ.tail (x := .pointer q') (xs := ptrs ps2) hQ (by rw [ptrs_length, ptrs_length]; rfl)
          obtain ⟨i0, hi0, hz0, hz1, hz2⟩ := info_parts infoNode
          have hcut := cut_from (P := Try.prog) 121 80 .i64 Try.underlying121 hi0 1 hz1 Al (ptrs (q' :: ps2)).length cl 1 (by omega) (by rw [ptrs_length, List.length_cons]; omega)
          rw [show ((1 : Int).toNat) = 1 from rfl, Nat.mul_one] at hcut
          generalize (if cl = 1 then Al else Al.map (·.add 1)) = Al2 at *
          have HF : Hid (RDI A b w (458331 - (p + 1)) (.slice Al2 ((ptrs (q' :: ps2)).length - 1) (cl - 1)) wr) :=
            ⟨K, p + 1, g, D, ps2, by have := KL; omega, by omega, BX, hM, hO, hQt, ⟨by have := hR.1; rw [List.length_drop] at this ⊢; simp only [List.length_cons] at this; omega, fun k T q hk hq => hR.2 (k + 1) T q (by rw [List.getElem?_drop] at hk ⊢; rw [← hk]; congr 1; omega) (by simpa using hq)⟩, hX⟩
          clear hi0 hz0 hz1 hz2 hQt hQ hR hX hM hO BX hB hS hV hsep
          generalize (ptrs (q' :: ps2)).length = n2 at *
          go_wp2_with fail
          go_roundg (458331 - (p + 1))
          case measure => have := hf.out; omega
          case rel => exact HF.out
    · have hfound := hB.found (by omega) (show B.carets = A.carets from HC.out.1.symm)
      have hh : Maps.has D (keyL B) = true := (hM.1 B).2 hfound.1
      have hat1 := Lib.hid (hM.2 B hfound.1)
      have HD := Lib.hid hfound.2
      have n0 : ¬ (0 : Int) < (ptrs ps).length := by rw [ptrs_length]; omega
      replace hO := Lib.hid hO
      replace hX := Lib.hid hX
      clear hfound hQ hR hM hB rd KL K5
      go_wp2_with (first
        | (at_lookup; refine wpList_lookup_own_ok_int _ rfl _ _ 129 rfl 9 3 .i64 mapS Try.underlying129 Try.underlying3 (zeroI _) b K.length _ rfl hO.out _ _ rfl KB.out ?_; intro c hat hwc; rw [hh]))
      obtain rfl : ((g B : Nat) : Int) = c := by
        have := hat1.out.symm.trans hat
        injection this with this
        injection this
      go_ret2
      exact ⟨g B, rfl, HD.out, hX.out⟩
theorem RotationDistance_no (s t : ByteArray) (h : ∀ A B, s = tx A → t = tx B → A.carets = B.carets → B.carets ≤ 5 → False) (w : World) :
    Calls Try.prog 39 #[.string s, .string t] w fun e w' => e = .returned (.tuple #[.int .i64 0, .bool false]) ∧ Ext w w' := by
  have CP := Lib.hid (fun W => pairOf_calls s t W)
  have HN := Lib.hid h
  clear h
  go_enter Try.func39, Try.ntmps39
  go_wp2_with fail
  refine (CP.out _).mono ?_
  rintro e w1 ⟨pa, pb, ok, rfl, x1, y1, n1⟩
  have X2 := Lib.hid (x1.alloc (.cells #[.pointer pa, .pointer pb] 82))
  have B0 := heap_alloc_new w1 (.cells #[.pointer pa, .pointer pb] 82)
  obtain ⟨c0, c1⟩ := cells_of B0
  have xx := (Ext.refl w1).alloc (.cells #[.pointer pa, .pointer pb] 82)
  cases ok with
  | false =>
    clear x1 xx B0
    go_wp2_with fail
    go_ret2
    exact ⟨rfl, X2.out⟩
  | true =>
    obtain ⟨A, B, hA, hB, hc, h8, ra, rb⟩ := y1.out rfl
    have A5 : (5 : Int) < A.carets := by
      have : ¬ B.carets ≤ 5 := fun h => HN.out A B hA hB hc h
      omega
    have RA := Lib.hid (ra.ext xx)
    have A8 : A.carets < 1000000000 := by omega
    clear ra rb xx x1 B0 hA hB hc h8 y1 n1
    go_wp2_with fail
    generalize w1.alloc (.cells #[.pointer pa, .pointer pb] 82) = w2 at *
    refine (carets_calls A pa _ A8 RA.out).mono ?_
    rintro e w3 ⟨rfl, n3, rfl⟩
    have X3 := Lib.hid (X2.out.drewN n3)
    clear c0 c1
    generalize w2.drewN n3 = w3 at *
    go_wp2_with fail
    go_ret2
    exact ⟨rfl, X3.out⟩
end Go.Proofs.Ytijnadjgmmednaa.N
