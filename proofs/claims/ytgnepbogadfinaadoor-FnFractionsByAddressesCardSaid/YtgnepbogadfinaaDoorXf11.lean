import Derived.Deep.LoopGhost
import Derived.Laws.BytesArg
import Derived.Lib.ConvBytes
import Derived.Test.YtgnepbogadfinaaDoorXf6
/- A part of the proof: lemmas that later parts use. -/
set_option linter.unusedVariables false
set_option linter.unusedSimpArgs false
namespace Go.Proofs.YtgnepbogadfinaaDoor.N
open Go.RowKit
def ints (xs : List Int) : List Value := xs.map fun n => .int .i64 n
theorem ints_length (xs : List Int) : (ints xs).length = xs.length := by simp [ints]
end Go.Proofs.YtgnepbogadfinaaDoor.N
namespace Go.Proofs.YtgnepbogadfinaaDoor.N
open Go.RowKit
def ReadsM (w : World) (v : Value) (xss : List (List Int)) : Prop :=
  ∃ vs : List Value, Reads w v vs ∧ vs.length = xss.length ∧ ∀ (r : Nat) (xs : List Int), xss[r]? = some xs → ∃ u, vs[r]? = some u ∧ Reads w u (ints xs)
theorem ReadsM.ext {w w' : World} {v : Value} {xss : List (List Int)} (h : ReadsM w v xss) (hx : Ext w w') : ReadsM w' v xss := by
  obtain ⟨vs, h1, h2, h3⟩ := h
  exact ⟨vs, h1.ext hx, h2, fun r xs e => let ⟨u, a, b⟩ := h3 r xs e; ⟨u, a, b.ext hx⟩⟩
theorem ReadsM.open {w : World} {v : Value} {xss : List (List Int)} (h : ReadsM w v xss) : ∃ A c, v = .slice A xss.length c ∧ (A = none → c = 0) ∧
    ∀ (r : Nat) (xs : List Int), xss[r]? = some xs → ∃ ad B d, A = some ad ∧ w.cell? (ad.add r) = some (.slice B xs.length d) ∧ Reads w (.slice B xs.length d) (ints xs) := by
  obtain ⟨vs, ⟨A, c, rfl, h0, h1⟩, h2, h3⟩ := h
  refine ⟨A, c, by rw [h2], h0, fun r xs e => ?_⟩
  obtain ⟨u, hu, k⟩ := h3 r xs e
  obtain ⟨ad, rfl, hc⟩ := h1 (by have := (List.getElem?_eq_some_iff.1 hu).1; omega)
  have hcu := hc r u hu
  obtain ⟨B, d, rfl, k0, k1⟩ := k
  rw [ints_length] at *
  exact ⟨ad, B, d, rfl, hcu, ⟨B, d, by rw [ints_length], k0, by rw [ints_length]; exact k1⟩⟩
def Rows (w : World) (base : Nat) (us : List Value) (xss : List (List Int)) : Prop :=
  us.length = xss.length ∧ (∀ (r : Nat) (xs : List Int), xss[r]? = some xs → ∃ u, us[r]? = some u ∧ Own w base 3 u (ints xs)) ∧
  ∀ (r s : Nat) (u v : Value), r < s → us[r]? = some u → us[s]? = some v → ∀ k, u.ownBlock = some k → v.ownBlock ≠ some k
def OwnM (w : World) (base : Nat) (v : Value) (xss : List (List Int)) : Prop := ∃ us, Own w base 75 v us ∧ Rows w base us xss
theorem OwnM.reads {w : World} {base : Nat} {v : Value} {xss : List (List Int)} (h : OwnM w base v xss) : ReadsM w v xss := by
  obtain ⟨us, h1, h2, h3, _⟩ := h
  exact ⟨us, h1.reads, h2, fun r xs e => let ⟨u, a, b⟩ := h3 r xs e; ⟨u, a, b.reads⟩⟩
theorem Rows.nil (w : World) (base : Nat) : Rows w base [] [] := ⟨rfl, fun r xs e => by simp at e, fun r s u v _ e => by simp at e⟩
theorem Rows.ext {w w' : World} {base : Nat} {us : List Value} {xss : List (List Int)} (h : Rows w base us xss) (hx : Ext w w') : Rows w' base us xss :=
  ⟨h.1, fun r xs e => let ⟨u, a, b⟩ := h.2.1 r xs e; ⟨u, a, b.ext hx⟩, h.2.2⟩
theorem Rows.mono {w : World} {base base' : Nat} {us : List Value} {xss : List (List Int)} (h : Rows w base us xss) (hb : base' ≤ base) : Rows w base' us xss :=
  ⟨h.1, fun r xs e => let ⟨u, a, b⟩ := h.2.1 r xs e; ⟨u, a, b.mono hb⟩, h.2.2⟩
theorem OwnM.ext {w w' : World} {base : Nat} {v : Value} {xss : List (List Int)} (h : OwnM w base v xss) (hx : Ext w w') : OwnM w' base v xss :=
  let ⟨us, a, b⟩ := h; ⟨us, a.ext hx, b.ext hx⟩
theorem OwnM.mono {w : World} {base base' : Nat} {v : Value} {xss : List (List Int)} (h : OwnM w base v xss) (hb : base' ≤ base) : OwnM w base' v xss :=
  let ⟨us, a, b⟩ := h; ⟨us, a.mono hb, b.mono hb⟩
theorem Rows.far {w w' : World} {base g : Nat} {us : List Value} {xss : List (List Int)} (h : Rows w base us xss) (hg : w.grownBy w' (some g)) (hb : g < base) : Rows w' base us xss :=
  ⟨h.1, fun r xs e => let ⟨u, a, b⟩ := h.2.1 r xs e; ⟨u, a, b.far hg (fun k hk hu => by cases hk; have := b.lo _ hu; omega)⟩, h.2.2⟩
theorem Rows.snoc {w : World} {base b0 : Nat} {us : List Value} {xss : List (List Int)} {u : Value} {xs : List Int} (h : Rows w base us xss) (hu : Own w b0 3 u (ints xs)) (hb : base ≤ b0)
    (hl : ∀ (v : Value), v ∈ us → ∀ k, v.ownBlock = some k → k < b0) : Rows w base (us ++ [u]) (xss ++ [xs]) := by
  refine ⟨by simp [h.1], fun r ys e => ?_, fun r s a b hrs ea eb k ha hb' => ?_⟩
  · rw [List.getElem?_append] at e
    split at e
    · rename_i hr
      obtain ⟨v, hv, k⟩ := h.2.1 r ys e
      exact ⟨v, by rw [List.getElem?_append_left (by rw [h.1]; exact hr)]; exact hv, k⟩
    · rename_i hr
      have : r = xss.length := by have := (List.getElem?_eq_some_iff.1 e).1; simp at this; omega
      subst this
      have e : xs = ys := by simpa using e
      subst e
      exact ⟨u, by rw [List.getElem?_append_right (by rw [h.1]; exact Nat.le_refl _)]; simp [h.1], hu.mono hb⟩
  · have hs : s < us.length + 1 := by have := (List.getElem?_eq_some_iff.1 eb).1; simpa using this
    have hr : r < us.length := by omega
    rw [List.getElem?_append_left hr] at ea
    by_cases hs2 : s < us.length
    · rw [List.getElem?_append_left hs2] at eb
      exact h.2.2 r s a b hrs ea eb k ha hb'
    · have : s = us.length := by omega
      subst this
      rw [List.getElem?_append_right (Nat.le_refl _)] at eb
      have e : u = b := by simpa using eb
      subst e
      have h1 := hu.lo k hb'
      have h2 := hl a (List.mem_of_getElem? ea) k ha
      omega
theorem Rows.lt {w : World} {base : Nat} {us : List Value} {xss : List (List Int)} (h : Rows w base us xss) : ∀ (v : Value), v ∈ us → ∀ k, v.ownBlock = some k → k < w.heap.size := by
  intro v hv k hk
  obtain ⟨r, hr, e⟩ := List.getElem_of_mem hv
  obtain ⟨u, hu, o⟩ := h.2.1 r (xss[r]'(by rw [← h.1]; exact hr)) (List.getElem?_eq_getElem _)
  rw [List.getElem?_eq_getElem hr, e] at hu
  cases hu
  exact (o.block k hk).2
structure Mid (us : List Value) (w w' : World) : Prop where
  os : w'.os = w.os
  tape : w'.tape = w.tape
  output : w'.output = w.output
  size : w.heap.size ≤ w'.heap.size
  block : ∀ i, i < w.heap.size → (∀ u ∈ us, u.ownBlock ≠ some i) → w'.heap[i]? = w.heap[i]?
theorem Mid.refl (us : List Value) (w : World) : Mid us w w := ⟨rfl, rfl, rfl, Nat.le_refl _, fun _ _ _ => rfl⟩
theorem Mid.step {us : List Value} {w w' w'' : World} {u : Value} (h : Mid us w w') (hg : w'.grownBy w'' u.ownBlock) (hu : u ∈ us) : Mid us w w'' :=
  ⟨hg.os.trans h.os, hg.tape.trans h.tape, hg.output.trans h.output, Nat.le_trans h.size hg.size, fun i hi hn => (hg.block i (Nat.lt_of_lt_of_le hi h.size) (fun e => hn u hu e.symm)).trans (h.block i hi hn)⟩
theorem Mid.ext {us : List Value} {w0 w w' : World} (h : Mid us w w') (hx : Ext w0 w) (hu : ∀ u ∈ us, ∀ k, u.ownBlock = some k → w0.heap.size ≤ k) : Ext w0 w' :=
  ⟨h.os.trans hx.os, h.tape.trans hx.tape, h.output.trans hx.output, Nat.le_trans hx.size h.size, fun i hi => (h.block i (Nat.lt_of_lt_of_le hi hx.size) (fun u hm e => by have := hu u hm i e; omega)).trans (hx.block i hi)⟩
theorem Own.same {w w' : World} {base : Nat} {e : TypeId} {v : Value} {xs : List Value} (h : Own w base e v xs) (hs : ∀ k, v.ownBlock = some k → w'.heap[k]? = w.heap[k]?) : Own w' base e v xs := by
  refine ⟨h.1, ?_⟩
  rcases h.2 with h | ⟨g, cap, cur, e1, h1, h2, h3⟩
  · exact .inl h
  · exact .inr ⟨g, cap, cur, e1, h1, by rw [hs g (by rw [e1]; rfl)]; exact h2, h3⟩
theorem Mid.own {us : List Value} {w w' : World} {base B : Nat} {e : TypeId} {v : Value} {xs : List Value} (h : Mid us w w') (o : Own w B e v xs) (hu : ∀ u ∈ us, ∀ k, u.ownBlock = some k → k < B) : Own w' B e v xs :=
  o.same fun k hk => h.block k (o.block k hk).2 fun u hm e => by have := hu u hm k e; have := o.lo k hk; omega
end Go.Proofs.YtgnepbogadfinaaDoor.N
namespace Go.Proofs.YtgnepbogadfinaaDoor.N
open Go.RowKit
def InN (n : Nat) (xs : List Int) : Prop := ∀ x ∈ xs, 0 ≤ x ∧ x < (n : Int)
instance (n : Nat) (xs : List Int) : Decidable (InN n xs) := by unfold InN; infer_instance
def RowN (n : Nat) (xs : List Int) : Prop := xs.length = n ∧ InN n xs
instance (n : Nat) (xs : List Int) : Decidable (RowN n xs) := by unfold RowN; infer_instance
def Tab (xss : List (List Int)) : Prop := (1 ≤ xss.length ∧ xss.length ≤ 4) ∧ ∀ xs ∈ xss, RowN xss.length xs
instance (xss : List (List Int)) : Decidable (Tab xss) := by unfold Tab; infer_instance
theorem l1In_calls (x lo hi : Int) (w : World) :
    Calls Tryd.prog 60 #[.int .i64 x, .int .i64 lo, .int .i64 hi] w fun e w' => e = .returned (.bool (decide (lo ≤ x ∧ x ≤ hi))) ∧ w = w' := by
  by_cases h1 : lo ≤ x
  · by_cases h2 : x ≤ hi
    · rw [decide_eq_true ⟨h1, h2⟩]
      go_enter Tryd.func60, Tryd.ntmps60
      go_wp2_with fail
      go_ret
      exact ⟨rfl, rfl⟩
    · rw [decide_eq_false (fun h => h2 h.2)]
      go_enter Tryd.func60, Tryd.ntmps60
      go_wp2_with fail
      go_ret
      exact ⟨rfl, rfl⟩
  · rw [decide_eq_false (fun h => h1 h.1)]
    go_enter Tryd.func60, Tryd.ntmps60
    go_wp2_with fail
    go_ret
    exact ⟨rfl, rfl⟩
def InI (lo hi : Int) (xs : List Int) : Prop := ∀ x ∈ xs, lo ≤ x ∧ x ≤ hi
instance (lo hi : Int) (xs : List Int) : Decidable (InI lo hi xs) := by unfold InI; infer_instance
end Go.Proofs.YtgnepbogadfinaaDoor.N
namespace Go.Proofs.YtgnepbogadfinaaDoor.N
open Go.RowKit
def nats (xs : List Nat) : List Value := ints (xs.map fun (n : Nat) => (n : Int))
theorem nats_length (xs : List Nat) : (nats xs).length = xs.length := by simp [nats, ints]
theorem nats_get (xs : List Nat) (k : Nat) (h : k < xs.length) : (nats xs)[k]? = some (.int .i64 (xs[k] : Nat)) := by simp [nats, ints, List.getElem?_eq_getElem h]
end Go.Proofs.YtgnepbogadfinaaDoor.N
namespace Go.Proofs.YtgnepbogadfinaaDoor.N
open Go.RowKit
theorem dots_snoc (l : List UInt8) (c : UInt8) : dots (l ++ [c]) = dots l + if c = 46 then 1 else 0 := by
  simp [dots, List.countP_append, List.countP_cons]
theorem dots_le (l : List UInt8) : dots l ≤ l.length := List.countP_le_length
end Go.Proofs.YtgnepbogadfinaaDoor.N
namespace Go.Proofs.YtgnepbogadfinaaDoor.N
open Go.RowKit
def pc1 (n : Int) : Int := IntKind.u64.wrap (bits BinOp.and IntKind.u64 (n / 2) 6148914691236517205 + bits BinOp.and IntKind.u64 n 6148914691236517205)
def pc2 (n : Int) : Int := IntKind.u64.wrap (bits BinOp.and IntKind.u64 (n / 4) 3689348814741910323 + bits BinOp.and IntKind.u64 n 3689348814741910323)
def pc3 (n : Int) : Int := bits BinOp.and IntKind.u64 (IntKind.u64.wrap (n / 16 + n)) 1085102592571150095
def pc4 (n : Int) : Int := IntKind.u64.wrap (n + n / 256)
def pc5 (n : Int) : Int := IntKind.u64.wrap (n + n / 65536)
def pc6 (n : Int) : Int := IntKind.u64.wrap (n + n / 4294967296)
def popc (n : Int) : Int := bits BinOp.and IntKind.i64 (wrap64 (pc6 (pc5 (pc4 (pc3 (pc2 (pc1 n))))))) 127
def isP2 (n : Nat) : Bool := (List.range 11).any fun k => 2 ^ k == n
theorem popc_all : ((List.range 1025).all fun n => (popc (n : Int) == 1) == isP2 n) = true := by kernel_rfl
theorem popc_eq (n : Nat) (h : n ≤ 1024) : (popc n == 1) = isP2 n := by
  have := List.all_eq_true.1 popc_all n (List.mem_range.2 (by omega))
  simpa using this
theorem isP2_iff (n : Nat) : isP2 n = true ↔ ∃ k, k ≤ 10 ∧ n = 2 ^ k := by
  unfold isP2
  rw [List.any_eq_true]
  constructor
  · rintro ⟨k, hk, h⟩
    exact ⟨k, by have := List.mem_range.1 hk; omega, (by simpa using h : 2 ^ k = n).symm⟩
  · rintro ⟨k, hk, rfl⟩
    exact ⟨k, List.mem_range.2 (by omega), by simp⟩
set_option maxHeartbeats 1600000 in
theorem ones64 (n : Nat) (hn : n ≤ 1024) (w : World) :
    Calls Tryd.prog 88 #[.int .u64 n] w fun e w' => e = .returned (.int .i64 (popc n)) ∧ w = w' := by
  go_enter Tryd.func88, Tryd.ntmps88
  go_wp2_with fail
  go_ret
  exact ⟨rfl, rfl⟩
theorem ones_calls (n : Nat) (hn : n ≤ 1024) (w : World) :
    Calls Tryd.prog 58 #[.int .u64 n] w fun e w' => e = .returned (.int .i64 (popc n)) ∧ w = w' := by
  have C1 := Lib.hid (fun W => ones64 n hn W)
  generalize popc n = p at *
  go_enter Tryd.func58, Tryd.ntmps58
  go_wp2_with fail
  refine (C1.out _).mono ?_
  rintro e w1 ⟨rfl, rfl⟩
  go_wp2_with fail
  go_ret
  exact ⟨rfl, rfl⟩
def goodB (n d : Int) : Bool := decide (1 ≤ d ∧ d ≤ 1024) && isP2 d.toNat && decide (0 ≤ n ∧ n ≤ d) && (d == 1 || n % 2 == 1)
theorem goodB_far {n d : Int} (h : ¬ (1 ≤ d ∧ d ≤ 1024)) : goodB n d = false := by simp [goodB, h]
theorem goodB_two {n : Int} {c : Nat} (h : isP2 c = false) : goodB n c = false := by simp [goodB, h]
theorem goodB_num {n d : Int} (h : ¬ (0 ≤ n ∧ n ≤ d)) : goodB n d = false := by
  unfold goodB
  rw [decide_eq_false h]; simp
theorem goodB_in {n : Int} {c : Nat} (h1 : 1 ≤ c) (h2 : c ≤ 1024) (h3 : isP2 c = true) (h4 : 0 ≤ n ∧ n ≤ (c : Int)) : goodB n c = ((c : Int) == 1 || n % 2 == 1) := by
  unfold goodB
  rw [decide_eq_true (by omega : (1 : Int) ≤ c ∧ (c : Int) ≤ 1024), decide_eq_true h4, Int.toNat_natCast, h3]; simp
set_option maxHeartbeats 3200000 in
set_option maxRecDepth 100000 in
theorem isFraction_calls (n d : Int) (w : World) :
    Calls Tryd.prog 22 #[.agg #[.int .i64 n, .int .i64 d]] w fun e w' => e = .returned (.bool (goodB n d)) ∧ Ext w w' := by
  have X0 := Lib.hid ((Ext.refl w).alloc (.cells #[.int .i64 n, .int .i64 d] 31))
  obtain ⟨c0, c1⟩ := cells_of (heap_alloc_new w (.cells #[.int .i64 n, .int .i64 d] 31))
  by_cases hd : 1 ≤ d ∧ d ≤ 1024
  · obtain ⟨c, rfl⟩ : ∃ c : Nat, d = c := ⟨d.toNat, by omega⟩
    have C1 := Lib.hid (fun W => ones_calls c (by omega) W)
    have PE := popc_eq c (by omega)
    have wr : IntKind.u64.wrap (c : Int) = c := by simp [IntKind.wrap, IntKind.bits, IntKind.signed]; omega
    cases hp : isP2 c with
    | false =>
      have HE : Hid (goodB n c = false) := goodB_two hp
      rw [hp] at PE
      clear hp
      generalize popc c = q at *
      have p2 : (q != 1) = true := by rw [bne, PE]; rfl
      have p3 : ¬ q = 1 := by simpa using PE
      go_enter Tryd.func22, Tryd.ntmps22
      go_wp2_with fail
      generalize w.alloc (.cells #[.int .i64 n, .int .i64 c] 31) = W at *
      refine (C1.out _).mono ?_
      rintro e w1 ⟨rfl, rfl⟩
      go_wp2_with fail
      go_ret
      exact ⟨by rw [HE.out]; rfl, X0.out⟩
    | true =>
      rw [hp] at PE
      have PE : popc c = 1 := by simpa using PE
      rw [PE] at C1
      clear PE
      by_cases hn : 0 ≤ n ∧ n ≤ (c : Int)
      · have HE := Lib.hid (goodB_in (by omega) (by omega) hp hn)
        clear hp
        cases t1 : ((c : Int) == 1) with
        | true =>
          rw [t1] at HE
          go_enter Tryd.func22, Tryd.ntmps22
          go_wp2_with fail
          generalize w.alloc (.cells #[.int .i64 n, .int .i64 c] 31) = W at *
          refine (C1.out _).mono ?_
          rintro e w1 ⟨rfl, rfl⟩
          go_wp2_with fail
          go_ret
          exact ⟨by rw [HE.out]; rfl, X0.out⟩
        | false =>
          rw [t1] at HE
          go_enter Tryd.func22, Tryd.ntmps22
          go_wp2_with fail
          generalize w.alloc (.cells #[.int .i64 n, .int .i64 c] 31) = W at *
          refine (C1.out _).mono ?_
          rintro e w1 ⟨rfl, rfl⟩
          go_wp2_with fail
          go_ret
          exact ⟨by rw [HE.out]; rfl, X0.out⟩
      · have HE := Lib.hid (goodB_num hn)
        clear hp
        by_cases h0 : n < 0
        · go_enter Tryd.func22, Tryd.ntmps22
          go_wp2_with fail
          generalize w.alloc (.cells #[.int .i64 n, .int .i64 c] 31) = W at *
          refine (C1.out _).mono ?_
          rintro e w1 ⟨rfl, rfl⟩
          go_wp2_with fail
          go_ret
          exact ⟨by rw [HE.out]; rfl, X0.out⟩
        · have h1 : (c : Int) < n := by omega
          go_enter Tryd.func22, Tryd.ntmps22
          go_wp2_with fail
          generalize w.alloc (.cells #[.int .i64 n, .int .i64 c] 31) = W at *
          refine (C1.out _).mono ?_
          rintro e w1 ⟨rfl, rfl⟩
          go_wp2_with fail
          go_ret
          exact ⟨by rw [HE.out]; rfl, X0.out⟩
  · have HE := Lib.hid (goodB_far (n := n) hd)
    by_cases h1 : d < 1
    · go_enter Tryd.func22, Tryd.ntmps22
      go_wp2_with fail
      go_ret
      exact ⟨by rw [HE.out]; rfl, X0.out⟩
    · have h2 : 1024 < d := by omega
      go_enter Tryd.func22, Tryd.ntmps22
      go_wp2_with fail
      go_ret
      exact ⟨by rw [HE.out]; rfl, X0.out⟩
theorem half_all : ((List.range 1025).all fun c => c ≤ 1 || (if c % 2 == 1 then isP2 c == false else isP2 c == isP2 (c / 2))) = true := by kernel_rfl
theorem isP2_odd {c : Nat} (h1 : 1 < c) (h2 : c ≤ 1024) (h : c % 2 = 1) : isP2 c = false := by
  have := List.all_eq_true.1 half_all c (List.mem_range.2 (by omega))
  simpa [h, show ¬ c ≤ 1 by omega] using this
theorem isP2_even {c : Nat} (h1 : 1 < c) (h2 : c ≤ 1024) (h : ¬ c % 2 = 1) : isP2 c = isP2 (c / 2) := by
  have := List.all_eq_true.1 half_all c (List.mem_range.2 (by omega))
  simpa [h, show ¬ c ≤ 1 by omega] using this
set_option maxHeartbeats 3200000 in
set_option maxRecDepth 100000 in
theorem mpGood_calls (n d : Int) (w : World) :
    Calls Tryd.prog 36 #[.agg #[.int .i64 n, .int .i64 d]] w fun e w' => e = .returned (.bool (goodB n d)) ∧ Ext w w' := by
  have X0 := Lib.hid ((Ext.refl w).alloc (.cells #[.int .i64 n, .int .i64 d] 31))
  obtain ⟨c0, c1⟩ := cells_of (heap_alloc_new w (.cells #[.int .i64 n, .int .i64 d] 31))
  have C1 := Lib.hid (fun W => l1In_calls d 1 1024 W)
  have C2 := Lib.hid (fun W => l1In_calls n 0 d W)
  by_cases hd : 1 ≤ d ∧ d ≤ 1024
  · obtain ⟨c, rfl⟩ : ∃ c : Nat, d = c := ⟨d.toNat, by omega⟩
    rw [decide_eq_true hd] at C1
    by_cases hn : 0 ≤ n ∧ n ≤ (c : Int)
    · rw [decide_eq_true hn] at C2
      have HG : Hid (isP2 c = true → goodB n c = ((c : Int) == 1 || n % 2 == 1)) := fun h => goodB_in (by omega) (by omega) h hn
      have HN : Hid (isP2 c = false → goodB n c = false) := goodB_two
      go_enter Tryd.func36, Tryd.ntmps36
      go_wp2_with fail
      generalize w.alloc (.cells #[.int .i64 n, .int .i64 c] 31) = W at *
      refine (C1.out _).mono ?_
      rintro e w1 ⟨rfl, rfl⟩
      go_wp2_with fail
      refine (C2.out _).mono ?_
      rintro e w1 ⟨rfl, rfl⟩
      go_wp2_with fail
      go_loop [3] (fun v => ∃ b : Nat, 1 ≤ b ∧ b ≤ 1024 ∧ v = .int .i64 b ∧ Hid (isP2 c = isP2 b)) (fun v => (intOf v).toNat)
      case atStart => exact ⟨c, by omega, by omega, rfl, rfl⟩
      case round =>
        obtain ⟨b, hb1, hb2, rfl, HB⟩ := hrel
        by_cases hb : 1 < b
        · have g1 : (1 : Int) < b := by omega
          by_cases ho : b % 2 = 1
          · have HE : Hid (goodB n c = false) := HN.out (by rw [HB.out]; exact isP2_odd hb hb2 ho)
            have t1 : ((b : Int) % 2 == 1) = true := by rw [beq_iff_eq]; omega
            clear ho
            go_wp2_with fail
            go_ret
            exact ⟨by rw [HE.out]; rfl, X0.out⟩
          · have HB2 : Hid (isP2 c = isP2 (b / 2)) := by show _ = _; rw [HB.out]; exact isP2_even hb hb2 ho
            have t1 : ((b : Int) % 2 == 1) = false := by rw [beq_eq_false_iff_ne]; omega
            have hb3 : 1 ≤ b / 2 := by omega
            have hb4 : b / 2 < b := by omega
            have q0 : (b : Int).tdiv 2 = ((b / 2 : Nat) : Int) := by rw [Int.tdiv_eq_ediv_of_nonneg (by omega)]; omega
            generalize b / 2 = h at *
            have hb5 : (h : Int) ≤ 1024 := by omega
            clear ho
            go_wp2_with fail
            exact ⟨⟨h, by omega, by omega, by go_num, HB2.out⟩, by simp [intOf]; omega⟩
        · obtain rfl : b = 1 := by omega
          have HE := Lib.hid (HG.out (by rw [HB.out]; rfl))
          have g1 : ¬ (1 : Int) < (1 : Nat) := by omega
          cases t1 : ((c : Int) == 1) with
          | true =>
            rw [t1] at HE
            go_wp2_with fail
            go_ret
            exact ⟨by rw [HE.out]; rfl, X0.out⟩
          | false =>
            rw [t1] at HE
            go_wp2_with fail
            go_ret
            exact ⟨by rw [HE.out]; rfl, X0.out⟩
    · rw [decide_eq_false hn] at C2
      have HE := Lib.hid (goodB_num hn)
      go_enter Tryd.func36, Tryd.ntmps36
      go_wp2_with fail
      generalize w.alloc (.cells #[.int .i64 n, .int .i64 c] 31) = W at *
      refine (C1.out _).mono ?_
      rintro e w1 ⟨rfl, rfl⟩
      go_wp2_with fail
      refine (C2.out _).mono ?_
      rintro e w1 ⟨rfl, rfl⟩
      go_wp2_with fail
      go_ret
      exact ⟨by rw [HE.out]; rfl, X0.out⟩
  · rw [decide_eq_false hd] at C1
    have HE := Lib.hid (goodB_far (n := n) hd)
    go_enter Tryd.func36, Tryd.ntmps36
    go_wp2_with fail
    generalize w.alloc (.cells #[.int .i64 n, .int .i64 d] 31) = W at *
    refine (C1.out _).mono ?_
    rintro e w1 ⟨rfl, rfl⟩
    go_wp2_with fail
    go_ret
    exact ⟨by rw [HE.out]; rfl, X0.out⟩
end Go.Proofs.YtgnepbogadfinaaDoor.N
namespace Go.Proofs.YtgnepbogadfinaaDoor.N
open Go.RowKit
theorem infoStr : (Tryd.prog.info? 9).map (fun i => (i.zero, i.size, i.bytes)) = some (some (.string ⟨#[]⟩), 1, 16) := by kernel_rfl
def sls (xs : List (List UInt8)) : List Value := xs.map fun s => .string (S s)
theorem sls_length (xs : List (List UInt8)) : (sls xs).length = xs.length := by simp [sls]
theorem sls_append (xs ys : List (List UInt8)) : sls xs ++ sls ys = sls (xs ++ ys) := by simp [sls]
theorem sls_one (xs : List (List UInt8)) : ∀ u ∈ sls xs, u.oneCell' = true := by
  intro u hu; obtain ⟨s, _, rfl⟩ := List.mem_map.1 hu; rfl
def GivesS (w : World) (xs : List (List UInt8)) (e : Ending) (w' : World) : Prop := ∃ v, e = .returned v ∧ Own w' w.heap.size 9 v (sls xs) ∧ Ext w w'
theorem sls_get (xs : List (List UInt8)) (k : Nat) (h : k < xs.length) : (sls xs)[k]? = some (.string (S xs[k])) := by simp [sls, List.getElem?_eq_getElem h]
end Go.Proofs.YtgnepbogadfinaaDoor.N
namespace Go.Proofs.YtgnepbogadfinaaDoor.N
open Go.RowKit
def Kp (w : World) (o v : Value) (xs : List Value) : Prop := Reads w v xs ∧ (∀ k, o.ownBlock = some k → v.ownBlock ≠ some k) ∧ ∀ k, v.ownBlock = some k → k < w.heap.size
theorem Kp.ext {w w' : World} {o v : Value} {xs : List Value} (h : Kp w o v xs) (hx : Ext w w') : Kp w' o v xs := ⟨h.1.ext hx, h.2.1, fun k hk => Nat.lt_of_lt_of_le (h.2.2 k hk) hx.size⟩
theorem Kp.grown {w w' : World} {o o' v : Value} {xs : List Value} (h : Kp w o v xs) (hg : w.grownBy w' o.ownBlock) (hq : o'.ownBlock = o.ownBlock ∨ o'.ownBlock = some w.heap.size) : Kp w' o' v xs := by
  refine ⟨h.1.far hg h.2.1, fun k hk hv => ?_, fun k hk => Nat.lt_of_lt_of_le (h.2.2 k hk) hg.size⟩
  rcases hq with q | q
  · exact h.2.1 k (q.symm.trans hk) hv
  · have := h.2.2 k hv
    rw [hk] at q
    injection q with q
    omega
section
variable {P : Program}
theorem wp_appK {w : World} {o : Oper} {a : Act} {K : Act → World → Prop} {Q : Exit → Act → World → Prop} (x y : Operand) (t : TypeId)
    (ho : o.op = .call { callee := .builtin .append, args := #[x, y], argTypes := #[t, t] })
    (base : Nat) (e : TypeId) (z : Value) (size bytes : Nat) (ht : P.underlying t = some (.slice e)) (hinfo : (P.info? e).map (fun i => (i.zero, i.size, i.bytes)) = some (some z, size, bytes)) (hz : z.cells.size = size) (hs0 : 0 < size)
    (v : Value) (n m c : Nat) (ad : Addr) (xs news : List Value) (hx : a.eval x = v) (hy : a.eval y = .slice (some ad) m c) (hown : w.ownsRow base e size v n xs) (hl : news.length = m * size) (hnews : ∀ j u, news[j]? = some u → w.cell? (ad.add j) = some u) (h1 : ∀ u ∈ news, u.oneCell' = true)
    (h63 : n + m ≤ maxLen) (hbytes : (n + m) * bytes ≤ 140737488355328) (hbase : base ≤ w.heap.size)
    (h : ∀ v' w', w'.ownsRow base e size v' (n + m) (xs ++ news) → w.grownBy w' v.ownBlock → (v'.ownBlock = v.ownBlock ∨ v'.ownBlock = some w.heap.size) → K (a.put o.dst v') w') : o.wp P a w K Q := by
  obtain ⟨i, hi, hzz⟩ := Option.map_eq_some_iff.1 hinfo
  simp only [Prod.mk.injEq] at hzz
  obtain ⟨hz0, hz1, hz2⟩ := hzz
  obtain ⟨v', w', hr, h2, h3, _, h5⟩ := run_append_own_at (P := P) w base t o.type e i z size bytes ht hi hz0 hz1 hz2 hz hs0 v n xs hown ad m c news hl hnews h1 h63 hbytes hbase
  unfold Oper.wp execOp
  simp only [ho, resolve, invoke, builtin, Sem.run_bind, Sem.run_pure, Result.andThen_ok, List.map_toArray, List.map_cons, List.map_nil, hx, hy, hr]
  exact h v' w' h2 h3 h5
theorem wpList_appK {w : World} {ops : Array Oper} {rest : List Oper} {o : Oper} {a : Act} {Q : Exit → Act → World → Prop} (hgd : o.guard = none) (x y : Operand) (t : TypeId)
    (ho : o.op = .call { callee := .builtin .append, args := #[x, y], argTypes := #[t, t] })
    (base : Nat) (e : TypeId) (z : Value) (size bytes : Nat) (ht : P.underlying t = some (.slice e)) (hinfo : (P.info? e).map (fun i => (i.zero, i.size, i.bytes)) = some (some z, size, bytes)) (hz : z.cells.size = size) (hs0 : 0 < size)
    (v : Value) (n m c : Nat) (ad : Addr) (xs news : List Value) (hx : a.eval x = v) (hy : a.eval y = .slice (some ad) m c) (hown : w.ownsRow base e size v n xs) (hl : news.length = m * size) (hnews : ∀ j u, news[j]? = some u → w.cell? (ad.add j) = some u) (h1 : ∀ u ∈ news, u.oneCell' = true)
    (h63 : n + m ≤ maxLen) (hbytes : (n + m) * bytes ≤ 140737488355328) (hbase : base ≤ w.heap.size)
    (h : ∀ v' w', w'.ownsRow base e size v' (n + m) (xs ++ news) → w.grownBy w' v.ownBlock → (v'.ownBlock = v.ownBlock ∨ v'.ownBlock = some w.heap.size) → wpList P ops Q rest (a.put o.dst v') w') : wpList P ops Q (o :: rest) a w :=
  wpList_plain hgd fun _ hK => wp_appK x y t ho base e z size bytes ht hinfo hz hs0 v n m c ad xs news hx hy hown hl hnews h1 h63 hbytes hbase fun v' w' h2 h3 h4 => hK _ _ (h v' w' h2 h3 h4)
theorem step_appK {w : World} {ops : Array Oper} {o : Oper} {a : Act} {K : Act → World → Prop} {Q : Exit → Act → World → Prop} {E : Prop} (hgd : o.guard = none) (x y : Operand) (t : TypeId)
    (ho : o.op = .call { callee := .builtin .append, args := #[x, y], argTypes := #[t, t] })
    (base : Nat) (e : TypeId) (z : Value) (size bytes : Nat) (ht : P.underlying t = some (.slice e)) (hinfo : (P.info? e).map (fun i => (i.zero, i.size, i.bytes)) = some (some z, size, bytes)) (hz : z.cells.size = size) (hs0 : 0 < size)
    (v : Value) (n m c : Nat) (ad : Addr) (xs news : List Value) (hx : a.eval x = v) (hy : a.eval y = .slice (some ad) m c) (hown : w.ownsRow base e size v n xs) (hl : news.length = m * size) (hnews : ∀ j u, news[j]? = some u → w.cell? (ad.add j) = some u) (h1 : ∀ u ∈ news, u.oneCell' = true)
    (h63 : n + m ≤ maxLen) (hbytes : (n + m) * bytes ≤ 140737488355328) (hbase : base ≤ w.heap.size)
    (h : ∀ v' w', w'.ownsRow base e size v' (n + m) (xs ++ news) → w.grownBy w' v.ownBlock → (v'.ownBlock = v.ownBlock ∨ v'.ownBlock = some w.heap.size) → K (a.put o.dst v') w') :
    if Region.wanted o (yielded ops a.tmps) = true then Oper.wp P o a w K Q else E := by
  have hw : Region.wanted o (yielded ops a.tmps) = true := by simp [Region.wanted, hgd]
  rw [if_pos hw]
  exact wp_appK x y t ho base e z size bytes ht hinfo hz hs0 v n m c ad xs news hx hy hown hl hnews h1 h63 hbytes hbase h
theorem new_cells (w : World) (cs : Array Value) (t : TypeId) : ∀ j u, cs.toList[j]? = some u → (w.alloc (.cells cs t)).cell? ((⟨w.heap.size, 0, none⟩ : Addr).add j) = some u := by
  intro j u hu
  rw [add_plain, cell_of_row _ w.heap.size j cs t (0, 0) (heap_alloc_new w _)]
  simpa using hu
theorem row_mono {w : World} {base base' : Nat} {e : TypeId} {sz n : Nat} {v : Value} {xs : List Value} (h : w.ownsRow base e sz v n xs) (hb : base' ≤ base) : w.ownsRow base' e sz v n xs := by
  refine ⟨h.1, ?_⟩
  rcases h.2 with h0 | ⟨g, cap, cur, h1, h2, h3⟩
  · exact .inl h0
  · exact .inr ⟨g, cap, cur, h1, Nat.le_trans hb h2, h3⟩
theorem new_slice_cell {w : World} {base : Nat} {e : TypeId} {size : Nat} {v : Value} {n : Nat} {xs : List Value} (h : w.ownsRow base e size v n xs) (hn : 0 < n) : ∃ g cap, v = .slice (some ⟨g, 0, none⟩) n cap ∧ ∀ j u, xs[j]? = some u → w.cell? ⟨g, j, none⟩ = some u := by
  rcases h.2 with ⟨rfl, h0⟩ | ⟨g, cap, cur, rfl, _⟩
  · omega
  · exact ⟨g, cap, rfl, fun j u hu => by rw [← add_plain]; exact h.cells rfl j u hu⟩
end
end Go.Proofs.YtgnepbogadfinaaDoor.N
namespace Go.Proofs.YtgnepbogadfinaaDoor.N
open Go.RowKit
set_option maxHeartbeats 3200000 in
set_option maxRecDepth 100000 in
theorem trGraft_calls (a b : List UInt8) (o : ByteArray) (hl : a.length + b.length < 1000000) (ho : o.size < 1000000) (w : World) :
    Calls Tryd.prog 115 #[.string (S (a ++ 46 :: b)), .int .i64 (dots a), .string o] w fun e w' => e = .returned (.string ((S a ++ o) ++ S b)) ∧ ∃ n, w' = w.drewN n := by
  have LN : Hid ((a ++ 46 :: b).length = a.length + b.length + 1) := by simp [Hid]; omega
  have E1 : Hid ((a ++ 46 :: b).take a.length = a) := by simp [Hid]
  have E2 : Hid ((a ++ 46 :: b).drop (a.length + 1) = b) := by
    show _ = _
    rw [List.drop_append, List.drop_eq_nil_of_le (by omega), show a.length + 1 - a.length = 1 from by omega]; rfl
  have G1 : Hid (∀ j, j < a.length → dots ((a ++ 46 :: b).take (j + 1)) ≤ dots a) := by
    intro j hj
    rw [List.take_append_of_le_length (by omega)]
    exact List.Sublist.countP_le (List.take_sublist _ _)
  have G3 : Hid ((a ++ 46 :: b)[a.length]? = some 46) := by simp [Hid]
  have DK := dots_le a
  generalize (a ++ 46 :: b) = l at *
  have D1 : Hid (dots (l.take a.length) = dots a) := by show _ = _; rw [E1.out]
  generalize hk : dots a = k at *
  go_enter Tryd.func115, Tryd.ntmps115
  go_wp2_with fail
  go_loop [7, 8] (fun n i => ∃ (j : Nat), j ≤ a.length ∧ i = .int .i64 j ∧ n = .int .i64 ((dots (l.take j) : Int) - 1)) (fun _ i => a.length + 2 - (intOf i).toNat)
  case atStart => exact ⟨0, Nat.zero_le _, rfl, rfl⟩
  case round =>
    obtain ⟨j, hj, rfl, rfl⟩ := hrel
    have b1 := dots_le (l.take j)
    have b2 : (l.take j).length ≤ j := List.length_take_le _ _
    have b3 : (0 : Int) ≤ dots (l.take j) ∧ (dots (l.take j) : Int) ≤ j := by omega
    clear b1 b2
    have hlt : j < l.length := by rw [LN.out]; omega
    obtain ⟨c, hc⟩ : ∃ c, l[j]? = some c := ⟨_, List.getElem?_eq_getElem hlt⟩
    have ST : dots (l.take (j + 1)) = dots (l.take j) + if c = 46 then 1 else 0 := by
      rw [List.take_add_one, hc]; exact dots_snoc _ _
    obtain ⟨x1, x2⟩ := s_at (S l) j c (by rw [S_toList]; exact hc)
    have h1 : (j : Int) < (S l).size := by show (j : Int) < (l.length : Nat); omega
    have h0 : (0 : Int) ≤ j := by omega
    by_cases hl2 : j = a.length
    · obtain rfl : c = 46 := by rw [hl2, G3.out] at hc; exact (Option.some.inj hc).symm
      have DD : dots (l.take j) = k := by rw [hl2]; exact D1.out
      rw [DD]
      have t1 : (((46 : UInt8).toNat : Int) == 46) = true := rfl
      have SZ : Hid ((S l).size = a.length + b.length + 1) := LN.out
      have F1 : (S l).extract 0 j = S a := by rw [S_extract, hl2, E1.out]; rfl
      have F2 : (S l).extract (j + 1) (S l).size = S b := by
        rw [S_extract, S_size, List.take_of_length_le (Nat.le_refl _), hl2, E2.out]
      have g1 : (j : Int) + 1 ≤ (S l).size := by rw [SZ.out]; omega
      have g2 : (j : Int) < 1000001 := by omega
      have g3 : (k : Int) - 1 + 1 = k := by omega
      have g4 : (9223372036854775807 < (S a).size + o.size) = False := by rw [S_size]; simp; omega
      have g5 : (9223372036854775807 < (S a).size + o.size + (S b).size) = False := by rw [S_size, S_size]; simp; omega
      have g6 : (k : Int) < 1000001 ∧ (0 : Int) ≤ k := by omega
      clear ST hc hl2 DD b3
      go_wp2_with fail
      go_region
      go_wp2_with fail
      go_ret
      exact ⟨rfl, 1, rfl⟩
    · have G := G1.out j (by omega)
      by_cases c1 : c = 46
      · have t1 : ((c.toNat : Int) == 46) = true := by subst c1; rfl
        rw [if_pos c1] at ST
        have t3 : (dots (l.take j) : Int) - 1 + 1 = dots (l.take j) := by omega
        have t2 : (((dots (l.take j) : Nat) : Int) == (k : Int)) = false := by rw [beq_eq_false_iff_ne]; omega
        have ST := Lib.hid ST
        clear c1 hc G
        go_wp2_with fail
        exact ⟨⟨j + 1, by omega, by go_num, by rw [ST.out]; go_num⟩, by simp [intOf]; omega⟩
      · have t1 : ((c.toNat : Int) == 46) = false := byte_ne c1
        rw [if_neg c1] at ST
        have t2 : (((dots (l.take j) : Nat) : Int) - 1 == (k : Int)) = false := by rw [beq_eq_false_iff_ne]; omega
        have ST := Lib.hid ST
        clear c1 hc G
        go_wp2_with fail
        exact ⟨⟨j + 1, by omega, by go_num, by rw [ST.out]; go_num⟩, by simp [intOf]; omega⟩
theorem trGraft_tree (T O : Tr) (n : Nat) (hT : T.carets < 1000) (hO : O.carets < 1000) (hn : n < T.carets + 1) (w : World) :
    Calls Tryd.prog 115 #[.string (tx T), .int .i64 n, .string (tx O)] w fun e w' => e = .returned (.string (tx (graft T n O))) ∧ ∃ m, w' = w.drewN m := by
  obtain ⟨a, b, e1, e2, e3⟩ := graft_txt O n T 0 (Nat.zero_le _) (by omega)
  have hl := T.txt_length
  have ho := O.txt_length
  rw [e1] at hl
  simp at hl
  have e4 : n = dots a := by omega
  have e5 : (S a ++ tx O) ++ S b = tx (graft T n O) := by
    show (S a ++ S O.txt) ++ S b = S ((T.grown _ 0).txt)
    rw [e2, S_append, S_append, List.append_assoc]
  rw [← e5, e4, show tx T = S (a ++ 46 :: b) by rw [tx, e1]]
  exact trGraft_calls a b (tx O) (by omega) (by show O.txt.length < _; omega) w
end Go.Proofs.YtgnepbogadfinaaDoor.N
namespace Go.Proofs.YtgnepbogadfinaaDoor.N
open Go.RowKit
def TabR (w : World) (v : Value) (n : Nat) (g : Nat → Nat → Nat) : Prop :=
  ∃ (ad : Addr) (c : Nat) (bd : Nat → Addr) (cc : Nat → Nat), v = .slice (some ad) n c ∧ (∀ i, i < n → w.cell? (ad.add i) = some (.slice (some (bd i)) n (cc i))) ∧ ∀ i j, i < n → j < n → w.cell? ((bd i).add j) = some (.int .i64 (g i j))
theorem TabR.ext {w w' : World} {v : Value} {n : Nat} {g : Nat → Nat → Nat} (h : TabR w v n g) (hx : Ext w w') : TabR w' v n g := by
  obtain ⟨ad, c, bd, cc, e, h1, h2⟩ := h
  exact ⟨ad, c, bd, cc, e, fun i hi => hx.cell (h1 i hi), fun i j hi hj => hx.cell (h2 i j hi hj)⟩
end Go.Proofs.YtgnepbogadfinaaDoor.N
