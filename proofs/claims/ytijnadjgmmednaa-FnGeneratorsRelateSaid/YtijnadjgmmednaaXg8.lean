import Derived.Deep.LoopGhost
import Derived.Laws.BytesArg
import Derived.Lib.ConvBytes
import Derived.Test.YtijnadjgmmednaaXg7
/- A part of the proof: lemmas that later parts use. -/
set_option linter.unusedVariables false
set_option linter.unusedSimpArgs false
namespace Go.Proofs.Ytijnadjgmmednaa.N
open Go.RowKit
def strs (xs : List ByteArray) : List Value := xs.map fun s => .string s
def ints (xs : List Int) : List Value := xs.map fun n => .int .i64 n
theorem strs_length (xs : List ByteArray) : (strs xs).length = xs.length := by simp [strs]
theorem ints_length (xs : List Int) : (ints xs).length = xs.length := by simp [ints]
theorem strs_one (xs : List ByteArray) : ∀ u ∈ strs xs, u.oneCell' = true := by
  intro u hu; obtain ⟨s, _, rfl⟩ := List.mem_map.1 hu; rfl
theorem ints_one (xs : List Int) : ∀ u ∈ ints xs, u.oneCell' = true := by
  intro u hu; obtain ⟨s, _, rfl⟩ := List.mem_map.1 hu; rfl
theorem strs_append (xs ys : List ByteArray) : strs xs ++ strs ys = strs (xs ++ ys) := by simp [strs]
theorem strs_get (xs : List ByteArray) (k : Nat) (h : k < xs.length) : (strs xs)[k]? = some (.string xs[k]) := by simp [strs, List.getElem?_eq_getElem h]
theorem ints_get (xs : List Int) (k : Nat) (h : k < xs.length) : (ints xs)[k]? = some (.int .i64 xs[k]) := by simp [ints, List.getElem?_eq_getElem h]
def GivesLS (w : World) (xs : List ByteArray) (b : Bool) (e : Ending) (w' : World) : Prop := ∃ v, e = .returned (.tuple #[v, .bool b]) ∧ Own w' w.heap.size 9 v (strs xs) ∧ Ext w w'
end Go.Proofs.Ytijnadjgmmednaa.N
namespace Go.Proofs.Ytijnadjgmmednaa.N
open Go.RowKit
theorem infoInt : (Try.prog.info? 3).map (fun i => (i.zero, i.size, i.bytes)) = some (some (.int .i64 0), 1, 8) := by kernel_rfl
def nats (xs : List Nat) : List Value := ints (xs.map fun (n : Nat) => (n : Int))
theorem nats_length (xs : List Nat) : (nats xs).length = xs.length := by simp [nats, ints]
theorem nats_append (xs ys : List Nat) : nats xs ++ nats ys = nats (xs ++ ys) := by simp [nats, ints]
theorem nats_one (xs : List Nat) : ∀ u ∈ nats xs, u.oneCell' = true := ints_one _
theorem nats_get (xs : List Nat) (k : Nat) (h : k < xs.length) : (nats xs)[k]? = some (.int .i64 (xs[k] : Nat)) := by simp [nats, ints, List.getElem?_eq_getElem h]
def GivesN (w : World) (xs : List Nat) (e : Ending) (w' : World) : Prop := ∃ v, e = .returned v ∧ Own w' w.heap.size 3 v (nats xs) ∧ Ext w w'
set_option maxHeartbeats 3200000 in
set_option maxRecDepth 100000 in
theorem exposed_calls (T : Tr) : ∀ (k : Nat) (p : Option Addr) (w : World), k + T.carets < 100000000 → Rep w T p →
    Calls Try.prog 140 #[.pointer p, .int .i64 k] w (GivesN w (expo T k)) := by
  induction T with
  | leaf =>
    intro k p w _ hr
    obtain rfl := hr
    go_enter Try.func140, Try.ntmps140
    go_wp2_with fail
    go_ret
    exact ⟨_, rfl, Own.nil _ _ _, Ext.refl _⟩
  | node l r ihl ihr =>
    intro k p w hc hr
    have op := hr.open
    clear hr
    obtain ⟨b, pl, pr, rfl, h0, h1, hl, hr⟩ := op
    by_cases hh : l = .leaf ∧ r = .leaf
    · obtain ⟨rfl, rfl⟩ := hh
      obtain rfl := hl
      obtain rfl := hr
      have o := Own.lit w w.heap.size 3 #[.int .i64 k] (Nat.le_refl _) (by show 1 ≤ maxLen; decide)
      have O := Lib.hid o
      clear o hc ihl ihr
      go_enter Try.func140, Try.ntmps140
      go_wp2_with fail
      go_ret
      exact ⟨_, rfl, O.out, (Ext.refl _).alloc _⟩
    · have hcc : (Tr.node l r).carets = 1 + l.carets + r.carets := rfl
      have e1 : 0 ≤ (l.carets : Int) ∧ (k : Int) + l.carets + 1 < 1000000000 := by omega
      have W1 : Hid ((k : Int) + (l.carets + 1) = ((k + (l.carets + 1) : Nat) : Int)) := by show _ = _; omega
      have W2 : IntKind.i64.wrap ((k : Int) + (l.carets + 1)) = (k : Int) + (l.carets + 1) := wrap_ok (by omega)
      have EN := Lib.hid (expo_node hh k)
      have NL := expo_length l k
      have NR := expo_length r (k + (l.carets + 1))
      have L1 : Hid (((nats (expo l k)).length + (nats (expo r (k + (l.carets + 1)))).length) * 8 ≤ 140737488355328) := by show _ ≤ _; rw [nats_length, nats_length]; omega
      have H := Lib.hid (And.intro hl hr)
      have HC : Hid (k + l.carets < 100000000 ∧ k + (l.carets + 1) + r.carets < 100000000 ∧ l.carets < 1000000000) := ⟨by omega, by omega, by omega⟩
      clear hc hcc NL NR
      cases l with
      | leaf =>
        obtain rfl := hl
        cases r with
        | leaf => exact absurd ⟨rfl, rfl⟩ hh
        | node x y =>
          obtain ⟨b2, px, py, e2, _⟩ := hr
          subst e2
          clear hh
          go_enter Try.func140, Try.ntmps140
          go_wp2_with fail
          go_region_held3 (fun w' => w'.cell? ⟨b, 0, none⟩ = some (.pointer none) ∧ w'.cell? ⟨b, 1, none⟩ = some (.pointer (some ⟨b2, 0, none⟩)) ∧ Ext w w')
            (first | exact two_cells h0 h1 (Ext.drew (Ext.refl _)) | exact two_cells h0 h1 x4 | exact two_cells h0 h1 x3 | exact two_cells h0 h1 x2 | exact two_cells h0 h1 x1 | fail)
            (first
              | (go_at_call 135; refine (leaves_calls .leaf _ _ HC.out.2.2 (H.out.1.ext x1)).mono ?_; rintro e w2 ⟨rfl, n2, rfl⟩; have x2 := x1.drewN n2)
              | (go_at_call_of 140 (Value.pointer none); refine (ihl _ _ _ HC.out.1 (H.out.1.ext (Ext.refl _).drew)).mono ?_; rintro e w1 ⟨v1, rfl, o1, hx1⟩; have x1 := (Ext.refl w).drew.trans hx1)
              | (go_at_call_of 140 (Value.pointer (some ⟨b2, 0, none⟩)); rw [W1.out]; refine (ihr _ _ _ HC.out.2.1 (H.out.2.ext x2)).mono ?_; rintro e w3 ⟨v3, rfl, o3, hx3⟩; have x3 := x2.trans hx3)
              | (refine step_app (by rfl) (.tmp 26) (.tmp 38) 89 (by rfl) w.heap.size 3 (.int .i64 0) 8 Try.underlying89 infoInt rfl (by omega) _ _ (nats (expo .leaf k)) (nats (expo (.node x y) (k + (Tr.leaf.carets + 1)))) (by rfl) (by rfl) (((o1.ext ((Ext.refl _).drewN n2)).ext hx3).mono ((Ext.refl w).drew).size) o3.reads (nats_one _) L1.out x3.size ?_; intro v4 w4 o4 g4 _; have x4 := x3.grown g4 (fun q hq => Nat.le_trans ((Ext.refl w).drew).size (o1.lo q hq)))
              | fail)
          go_wp2_with fail
          go_ret
          refine ⟨_, rfl, ?_, x4⟩
          rw [EN.out]
          rw [nats_append] at o4
          exact o4
      | node x y =>
        obtain ⟨b2, px, py, e2, _⟩ := hl
        subst e2
        clear hh hr
        go_enter Try.func140, Try.ntmps140
        go_wp2_with fail
        go_region_held3 (fun w' => w'.cell? ⟨b, 0, none⟩ = some (.pointer (some ⟨b2, 0, none⟩)) ∧ w'.cell? ⟨b, 1, none⟩ = some (.pointer pr) ∧ Ext w w')
          (first | exact two_cells h0 h1 (Ext.drew (Ext.refl _)) | exact two_cells h0 h1 x4 | exact two_cells h0 h1 x3 | exact two_cells h0 h1 x2 | exact two_cells h0 h1 x1 | fail)
          (first
            | (go_at_call 135; refine (leaves_calls (.node x y) _ _ HC.out.2.2 (H.out.1.ext x1)).mono ?_; rintro e w2 ⟨rfl, n2, rfl⟩; have x2 := x1.drewN n2)
            | (go_at_call_of 140 (Value.pointer (some ⟨b2, 0, none⟩)); refine (ihl _ _ _ HC.out.1 (H.out.1.ext (Ext.refl _).drew)).mono ?_; rintro e w1 ⟨v1, rfl, o1, hx1⟩; have x1 := (Ext.refl w).drew.trans hx1)
            | (go_at_call_of 140 (Value.pointer pr); rw [W1.out]; refine (ihr _ _ _ HC.out.2.1 (H.out.2.ext x2)).mono ?_; rintro e w3 ⟨v3, rfl, o3, hx3⟩; have x3 := x2.trans hx3)
            | (refine step_app (by rfl) (.tmp 26) (.tmp 38) 89 (by rfl) w.heap.size 3 (.int .i64 0) 8 Try.underlying89 infoInt rfl (by omega) _ _ (nats (expo (.node x y) k)) (nats (expo r (k + ((Tr.node x y).carets + 1)))) (by rfl) (by rfl) (((o1.ext ((Ext.refl _).drewN n2)).ext hx3).mono ((Ext.refl w).drew).size) o3.reads (nats_one _) L1.out x3.size ?_; intro v4 w4 o4 g4 _; have x4 := x3.grown g4 (fun q hq => Nat.le_trans ((Ext.refl w).drew).size (o1.lo q hq)))
            | fail)
        go_wp2_with fail
        go_ret
        refine ⟨_, rfl, ?_, x4⟩
        rw [EN.out]
        rw [nats_append] at o4
        exact o4
set_option maxHeartbeats 3200000 in
set_option maxRecDepth 100000 in
theorem without_calls (T : Tr) : ∀ (k : Nat) (p : Option Addr) (w : World), T.carets < 100000000 → k ∈ expo T 0 → Rep w T p →
    Calls Try.prog 167 #[.pointer p, .int .i64 k] w (GivesT w (without T k)) := by
  induction T with
  | leaf => intro k p w _ hk; cases hk
  | node l r ihl ihr =>
    intro k p w hc hk hr
    have op := hr.open
    clear hr
    obtain ⟨b, pl, pr, rfl, h0, h1, hl, hr⟩ := op
    by_cases hh : l = .leaf ∧ r = .leaf
    · obtain ⟨rfl, rfl⟩ := hh
      obtain rfl := hl
      obtain rfl := hr
      clear hc hk ihl ihr
      go_enter Try.func167, Try.ntmps167
      go_wp2_with fail
      go_ret
      exact ⟨_, rfl, rfl, Ext.refl _⟩
    · have H := Lib.hid (And.intro hl hr)
      cases l with
      | leaf =>
        obtain rfl := hl
        cases r with
        | leaf => exact absurd ⟨rfl, rfl⟩ hh
        | node x y =>
          obtain ⟨b2, px, py, e2, _⟩ := hr
          subst e2
          have HC2 := hc
          rcases mem_expo_node hh hk with ⟨k1, k2⟩ | ⟨k1, k2⟩
          · have t1 : (k : Int) < Tr.leaf.carets + 1 := by omega
            have EN : Hid (without (.node .leaf (.node x y)) k = .node (without .leaf k) (.node x y)) := by show _ = _; rw [without_node hh, if_neg (by omega)]
            have HC : Hid (Tr.leaf.carets < 1000000000 ∧ Tr.leaf.carets < 100000000 ∧ k ∈ expo .leaf 0) := ⟨by simp only [Tr.carets] at hc ⊢; omega, by simp only [Tr.carets] at hc ⊢; omega, k2⟩
            have W1 : Hid ((k : Int) = k) := rfl
            have c0 : 0 ≤ (Tr.leaf.carets : Int) ∧ (Tr.leaf.carets : Int) < 1000000000 := by have := HC.out.1; omega
            clear hc hk k1 k2 hh HC2
            go_enter Try.func167, Try.ntmps167
            go_wp2_with fail
            refine (leaves_calls .leaf _ _ HC.out.1 H.out.1).mono ?_
            rintro e w1 ⟨rfl, n1, rfl⟩
            go_wp2_with fail
            go_region_held3 (fun w' => w'.cell? ⟨b, 0, none⟩ = some (.pointer none) ∧ w'.cell? ⟨b, 1, none⟩ = some (.pointer (some ⟨b2, 0, none⟩)) ∧ Ext w w')
              (first | exact two_cells h0 h1 ((Ext.refl _).drewN n1).drew | exact two_cells h0 h1 ((Ext.refl _).drewN _) | exact two_cells h0 h1 (x3.alloc _) | exact two_cells h0 h1 x3 | fail)
              (first
                | (go_at_call 167; refine (ihl _ _ _ HC.out.2.1 HC.out.2.2 (H.out.1.ext (by first | exact ((Ext.refl _).drewN n1).drew | exact ((Ext.refl _).drewN _) | fail))).mono ?_; rintro e w3 ⟨p3, rfl, r3, hx3⟩; have x3 : Ext w w3 := (by first | exact ((Ext.refl w).drewN n1).drew.trans hx3 | exact ((Ext.refl w).drewN _).trans hx3 | fail))
                | fail)
            go_wp2_with fail
            go_ret
            rw [EN.out]
            exact ⟨_, rfl, Rep.made r3 (H.out.2.ext x3), x3.alloc _⟩
          · have t1 : ¬ (k : Int) < Tr.leaf.carets + 1 := by omega
            have t2 : ((Tr.leaf.carets : Int) + 1) ≤ k := by omega
            have EN : Hid (without (.node .leaf (.node x y)) k = .node .leaf (without (.node x y) (k - (Tr.leaf.carets + 1)))) := by show _ = _; rw [without_node hh, if_pos k1]
            have HC : Hid (Tr.leaf.carets < 1000000000 ∧ (Tr.node x y).carets < 100000000 ∧ k - (Tr.leaf.carets + 1) ∈ expo (.node x y) 0) := ⟨by simp only [Tr.carets] at hc ⊢; omega, by simp only [Tr.carets] at hc ⊢; omega, k2⟩
            have W1 : Hid ((k : Int) - (Tr.leaf.carets + 1) = ((k - (Tr.leaf.carets + 1) : Nat) : Int)) := by show _ = _; omega
            have c0 : 0 ≤ (Tr.leaf.carets : Int) ∧ (Tr.leaf.carets : Int) < 1000000000 := by have := HC.out.1; omega
            have c1 : (k : Int) < 1000000000 := by have := (expo_range _ _ _ hk).2.1; omega
            have W2 : IntKind.i64.wrap ((k : Int) - (Tr.leaf.carets + 1)) = (k : Int) - (Tr.leaf.carets + 1) := wrap_ok (by omega)
            clear hc hk k1 k2 hh HC2
            go_enter Try.func167, Try.ntmps167
            go_wp2_with fail
            refine (leaves_calls .leaf _ _ HC.out.1 H.out.1).mono ?_
            rintro e w1 ⟨rfl, n1, rfl⟩
            go_wp2_with fail
            go_region_held3 (fun w' => w'.cell? ⟨b, 0, none⟩ = some (.pointer none) ∧ w'.cell? ⟨b, 1, none⟩ = some (.pointer (some ⟨b2, 0, none⟩)) ∧ Ext w w')
              (first | exact two_cells h0 h1 ((Ext.refl _).drewN n1).drew | exact two_cells h0 h1 ((Ext.refl _).drewN _) | exact two_cells h0 h1 (x3.alloc _) | exact two_cells h0 h1 x3 | fail)
              (first
                | (go_at_call 167; rw [W1.out]; refine (ihr _ _ _ HC.out.2.1 HC.out.2.2 (H.out.2.ext (by first | exact ((Ext.refl _).drewN n1).drew | exact ((Ext.refl _).drewN _) | fail))).mono ?_; rintro e w3 ⟨p3, rfl, r3, hx3⟩; have x3 : Ext w w3 := (by first | exact ((Ext.refl w).drewN n1).drew.trans hx3 | exact ((Ext.refl w).drewN _).trans hx3 | fail))
                | fail)
            go_wp2_with fail
            go_ret
            rw [EN.out]
            exact ⟨_, rfl, Rep.made (H.out.1.ext x3) r3, x3.alloc _⟩
      | node x y =>
        obtain ⟨b2, px, py, e2, _⟩ := hl
        subst e2
        clear hr
        have HC2 := hc
        rcases mem_expo_node hh hk with ⟨k1, k2⟩ | ⟨k1, k2⟩
        · have t1 : (k : Int) < (Tr.node x y).carets + 1 := by omega
          have EN : Hid (without (.node (.node x y) r) k = .node (without (.node x y) k) r) := by show _ = _; rw [without_node hh, if_neg (by omega)]
          have HC : Hid ((Tr.node x y).carets < 1000000000 ∧ (Tr.node x y).carets < 100000000 ∧ k ∈ expo (.node x y) 0) := ⟨by simp only [Tr.carets] at hc ⊢; omega, by simp only [Tr.carets] at hc ⊢; omega, k2⟩
          have W1 : Hid ((k : Int) = k) := rfl
          have c0 : 0 ≤ ((Tr.node x y).carets : Int) ∧ ((Tr.node x y).carets : Int) < 1000000000 := by have := HC.out.1; omega
          clear hc hk k1 k2 hh HC2
          go_enter Try.func167, Try.ntmps167
          go_wp2_with fail
          refine (leaves_calls (.node x y) _ _ HC.out.1 H.out.1).mono ?_
          rintro e w1 ⟨rfl, n1, rfl⟩
          go_wp2_with fail
          go_region_held3 (fun w' => w'.cell? ⟨b, 0, none⟩ = some (.pointer (some ⟨b2, 0, none⟩)) ∧ w'.cell? ⟨b, 1, none⟩ = some (.pointer pr) ∧ Ext w w')
            (first | exact two_cells h0 h1 ((Ext.refl _).drewN n1).drew | exact two_cells h0 h1 ((Ext.refl _).drewN _) | exact two_cells h0 h1 (x3.alloc _) | exact two_cells h0 h1 x3 | fail)
            (first
              | (go_at_call 167; refine (ihl _ _ _ HC.out.2.1 HC.out.2.2 (H.out.1.ext (by first | exact ((Ext.refl _).drewN n1).drew | exact ((Ext.refl _).drewN _) | fail))).mono ?_; rintro e w3 ⟨p3, rfl, r3, hx3⟩; have x3 : Ext w w3 := (by first | exact ((Ext.refl w).drewN n1).drew.trans hx3 | exact ((Ext.refl w).drewN _).trans hx3 | fail))
              | fail)
          go_wp2_with fail
          go_ret
          rw [EN.out]
          exact ⟨_, rfl, Rep.made r3 (H.out.2.ext x3), x3.alloc _⟩
        · have t1 : ¬ (k : Int) < (Tr.node x y).carets + 1 := by omega
          have t2 : (((Tr.node x y).carets : Int) + 1) ≤ k := by omega
          have EN : Hid (without (.node (.node x y) r) k = .node (.node x y) (without r (k - ((Tr.node x y).carets + 1)))) := by show _ = _; rw [without_node hh, if_pos k1]
          have HC : Hid ((Tr.node x y).carets < 1000000000 ∧ (r).carets < 100000000 ∧ k - ((Tr.node x y).carets + 1) ∈ expo r 0) := ⟨by simp only [Tr.carets] at hc ⊢; omega, by simp only [Tr.carets] at hc ⊢; omega, k2⟩
          have W1 : Hid ((k : Int) - ((Tr.node x y).carets + 1) = ((k - ((Tr.node x y).carets + 1) : Nat) : Int)) := by show _ = _; omega
          have c0 : 0 ≤ ((Tr.node x y).carets : Int) ∧ ((Tr.node x y).carets : Int) < 1000000000 := by have := HC.out.1; omega
          have c1 : (k : Int) < 1000000000 := by have := (expo_range _ _ _ hk).2.1; omega
          have W2 : IntKind.i64.wrap ((k : Int) - ((Tr.node x y).carets + 1)) = (k : Int) - ((Tr.node x y).carets + 1) := wrap_ok (by omega)
          clear hc hk k1 k2 hh HC2
          go_enter Try.func167, Try.ntmps167
          go_wp2_with fail
          refine (leaves_calls (.node x y) _ _ HC.out.1 H.out.1).mono ?_
          rintro e w1 ⟨rfl, n1, rfl⟩
          go_wp2_with fail
          go_region_held3 (fun w' => w'.cell? ⟨b, 0, none⟩ = some (.pointer (some ⟨b2, 0, none⟩)) ∧ w'.cell? ⟨b, 1, none⟩ = some (.pointer pr) ∧ Ext w w')
            (first | exact two_cells h0 h1 ((Ext.refl _).drewN n1).drew | exact two_cells h0 h1 ((Ext.refl _).drewN _) | exact two_cells h0 h1 (x3.alloc _) | exact two_cells h0 h1 x3 | fail)
            (first
              | (go_at_call 167; rw [W1.out]; refine (ihr _ _ _ HC.out.2.1 HC.out.2.2 (H.out.2.ext (by first | exact ((Ext.refl _).drewN n1).drew | exact ((Ext.refl _).drewN _) | fail))).mono ?_; rintro e w3 ⟨p3, rfl, r3, hx3⟩; have x3 : Ext w w3 := (by first | exact ((Ext.refl w).drewN n1).drew.trans hx3 | exact ((Ext.refl w).drewN _).trans hx3 | fail))
              | fail)
          go_wp2_with fail
          go_ret
          rw [EN.out]
          exact ⟨_, rfl, Rep.made (H.out.1.ext x3) r3, x3.alloc _⟩
end Go.Proofs.Ytijnadjgmmednaa.N
namespace Go.Proofs.Ytijnadjgmmednaa.N
open Go.RowKit
def ix : List Int → Int → Nat → Int
  | [], _, _ => -1
  | x :: l, n, k => if x = n then (k : Int) else ix l n (k + 1)
theorem ix_ge : ∀ (l : List Int) (n : Int) (k : Nat), (0 ≤ ix l n k ↔ n ∈ l) ∧ -1 ≤ ix l n k
  | [], n, k => by simp [ix]
  | x :: l, n, k => by
    simp only [ix, List.mem_cons]
    by_cases h : x = n
    · rw [if_pos h]; exact ⟨⟨fun _ => .inl h.symm, fun _ => by omega⟩, by omega⟩
    · rw [if_neg h]
      obtain ⟨h1, h2⟩ := ix_ge l n (k + 1)
      refine ⟨⟨fun h' => .inr (h1.1 h'), fun h' => ?_⟩, h2⟩
      rcases h' with e | e
      · exact absurd e.symm h
      · exact h1.2 e
set_option maxHeartbeats 1600000 in
theorem indexInt_calls (xs : List Int) (n : Int) (hl : xs.length < 100000000) (v : Value) (w : World) (hv : Reads w v (ints xs)) :
    Calls Try.prog 168 #[v, .int .i64 n] w fun e w' => e = .returned (.int .i64 (ix xs n 0)) ∧ w = w' := by
  obtain ⟨A, c, rfl, _, rd⟩ := hv
  rw [ints_length] at *
  have RD := Lib.hid rd
  clear rd
  go_enter Try.func168, Try.ntmps168
  go_wp2
  go_loop [8] (fun i => ∃ k : Nat, k ≤ xs.length ∧ i = .int .i64 k ∧ Hid (ix (xs.drop k) n k = ix xs n 0)) (fun i => xs.length - (intOf i).toNat)
  case atStart => exact ⟨0, Nat.zero_le _, rfl, rfl⟩
  case round =>
    obtain ⟨k, hk, rfl, HI⟩ := hrel
    by_cases hlt : k < xs.length
    · obtain ⟨ad, rfl, ca⟩ := RD.out (by omega)
      have c1 := ca k _ (ints_get xs k hlt)
      have h0 : (0 : Int) ≤ k := by omega
      have h1 : (k : Int) < xs.length := by omega
      have HD : Hid (xs.drop k = xs[k] :: xs.drop (k + 1)) := List.drop_eq_getElem_cons hlt
      clear ca
      by_cases hx : xs[k] = n
      · have HE : Hid (ix xs n 0 = (k : Int)) := by show _ = _; rw [← HI.out, HD.out, ix, if_pos hx]
        rw [hx] at c1
        clear hx HD
        go_wp2
        go_ret
        exact ⟨by rw [HE.out]; rfl, rfl⟩
      · have HE : Hid (ix (xs.drop (k + 1)) n (k + 1) = ix xs n 0) := by show _ = _; rw [← HI.out, HD.out, ix, if_neg hx]
        have t1 : (n == xs[k]) = false := by rw [beq_eq_false_iff_ne]; exact fun e => hx e.symm
        clear hx HD
        generalize xs[k] = x at *
        go_wp2
        exact ⟨⟨k + 1, by omega, by go_num, HE.out⟩, by simp [intOf]; omega⟩
    · have h1 : (xs.length : Int) ≤ k := by omega
      have HE : Hid (ix xs n 0 = -1) := by show _ = _; rw [← HI.out, List.drop_eq_nil_of_le (by omega)]; rfl
      go_wp2
      go_ret
      exact ⟨by rw [HE.out]; rfl, rfl⟩
theorem containsInt_calls (xs : List Int) (n : Int) (hl : xs.length < 100000000) (v : Value) (w : World) (hv : Reads w v (ints xs)) :
    Calls Try.prog 141 #[v, .int .i64 n] w fun e w' => e = .returned (.bool (decide (n ∈ xs))) ∧ w = w' := by
  have C := Lib.hid (indexInt_calls xs n hl v w hv)
  obtain ⟨h1, h2⟩ := ix_ge xs n 0
  by_cases h : n ∈ xs
  · have h3 := h1.2 h
    rw [decide_eq_true h]
    clear h1 h hv
    go_enter Try.func141, Try.ntmps141
    go_wp2_with fail
    refine (C.out).mono ?_
    rintro e w1 ⟨rfl, rfl⟩
    go_wp2_with fail
    go_ret
    exact ⟨by first | (simp; done) | (simp; omega), rfl⟩
  · have h3 : ¬ 0 ≤ ix xs n 0 := fun h' => h (h1.1 h')
    rw [decide_eq_false h]
    clear h1 h hv
    go_enter Try.func141, Try.ntmps141
    go_wp2_with fail
    refine (C.out).mono ?_
    rintro e w1 ⟨rfl, rfl⟩
    go_wp2_with fail
    go_ret
    exact ⟨by first | (simp; done) | (simp; omega), rfl⟩
theorem mem_cast (l : List Nat) (x : Nat) : ((x : Int) ∈ l.map fun (n : Nat) => (n : Int)) ↔ x ∈ l := by
  rw [List.mem_map]
  constructor
  · rintro ⟨a, h, e⟩
    obtain rfl : a = x := Int.ofNat.inj e
    exact h
  · intro h
    exact ⟨x, h, rfl⟩
set_option maxHeartbeats 3200000 in
set_option maxRecDepth 100000 in
theorem both_calls (A B : Tr) (hA : A.carets < 10000000) (hB : B.carets < 10000000) (pa pb : Option Addr) (w : World) (ra : Rep w A pa) (rb : Rep w B pb) :
    Calls Try.prog 94 #[.agg #[.pointer pa, .pointer pb]] w (GivesN w (bothT A B)) := by
  have X0 := Lib.hid ((Ext.refl w).alloc (.cells #[.pointer pa, .pointer pb] 82))
  have C1 := exposed_calls B 0 pb _ (by omega) (rb.ext X0.out)
  have C2 := fun W (hx : Ext w W) => exposed_calls A 0 pa W (by omega) (ra.ext hx)
  have LA := expo_length A 0
  have LB := expo_length B 0
  have EB : Hid (bothT A B = (expo A 0).filter fun k => (expo B 0).contains k) := rfl
  have LA' : (expo A 0).length < 10000000 := by omega
  have LB' : (expo B 0).length < 10000000 := by omega
  clear ra rb LA LB hA hB
  generalize expo A 0 = fa at *
  generalize expo B 0 = fb at *
  go_enter Try.func94, Try.ntmps94
  go_wp2_with fail
  refine C1.mono ?_
  rintro e w1 ⟨v1, rfl, o1, x1⟩
  have O1 := Lib.hid o1
  have X1 := Lib.hid (X0.out.trans x1)
  have h1 : w1.cell? ⟨w.heap.size, 0, none⟩ = some (.pointer pa) := x1.cell (by go_simp)
  clear o1 x1
  go_wp2_with fail
  refine (C2 _ X1.out).mono ?_
  rintro e w2 ⟨v2, rfl, o2, x2⟩
  obtain ⟨A2, c2, rfl, _, rd2⟩ := o2.reads
  rw [nats_length] at rd2 ⊢
  have RD := Lib.hid rd2
  have R1 := Lib.hid (O1.out.reads.ext x2)
  have X2 := Lib.hid (X1.out.trans x2)
  clear rd2 o2 x2 h1 O1
  go_wp2_with fail
  go_loopw [3, 14] (fun o i wr => ∃ k : Nat, k ≤ fa.length ∧ i = .int .i64 k ∧ Hid (Own wr w2.heap.size 3 o (nats ((fa.take k).filter fun k => fb.contains k))) ∧ Hid (Ext w2 wr)) (fun _ i _ => fa.length - (intOf i).toNat)
  case atStart => exact ⟨0, Nat.zero_le _, rfl, Own.nil _ _ _, Ext.refl _⟩
  case round =>
    obtain ⟨k, hk, rfl, HO, HX⟩ := hrel
    by_cases hlt : k < fa.length
    · obtain ⟨ad, rfl, ca⟩ := RD.out (by omega)
      have c1 := HX.out.cell (ca k _ (nats_get fa k hlt))
      have h0 : (0 : Int) ≤ k := by omega
      have h1 : (k : Int) < fa.length := by omega
      have FT := Lib.hid (filter_take (fun k => fb.contains k) fa k hlt)
      have LT : Hid (((fa.take k).filter fun k => fb.contains k).length ≤ k) := Nat.le_trans (List.length_filter_le _ _) (List.length_take_le _ _)
      clear ca
      generalize fa[k] = x at *
      have CC := Lib.hid (containsInt_calls (fb.map fun (n : Nat) => (n : Int)) x (by simp; omega) v1 wr (R1.out.ext HX.out))
      have DM : Hid (decide ((x : Int) ∈ fb.map fun (n : Nat) => (n : Int)) = fb.contains x) := by show _ = _; rw [Bool.eq_iff_iff, decide_eq_true_eq, mem_cast]; simp
      cases hc : fb.contains x with
      | false =>
        have FT2 : Hid ((fa.take (k + 1)).filter (fun k => fb.contains k) = (fa.take k).filter (fun k => fb.contains k)) := Lib.hid (by have := FT.out; rw [hc] at this; simpa using this)
        have D2 : Hid (decide ((x : Int) ∈ fb.map fun (n : Nat) => (n : Int)) = false) := Lib.hid (DM.out.trans hc)
        clear hc
        go_wp2_with fail
        refine CC.out.mono ?_
        rw [D2.out]
        rintro e w3 ⟨rfl, rfl⟩
        go_wp2_with fail
        exact ⟨⟨k + 1, by omega, by go_num, FT2.out.symm ▸ HO.out, HX.out⟩, by simp [intOf]; omega⟩
      | true =>
        have FT2 : Hid ((fa.take (k + 1)).filter (fun k => fb.contains k) = (fa.take k).filter (fun k => fb.contains k) ++ [x]) := Lib.hid (by have := FT.out; rw [hc] at this; simpa using this)
        have D2 : Hid (decide ((x : Int) ∈ fb.map fun (n : Nat) => (n : Int)) = true) := Lib.hid (DM.out.trans hc)
        have RL := Lib.hid (Own.lit wr 0 3 #[.int .i64 x] (Nat.zero_le _) (by show 1 ≤ maxLen; decide)).reads
        have O2 := HO.out.ext ((Ext.refl _).alloc (.cells #[.int .i64 x] 3))
        have LL : Hid (((nats ((fa.take k).filter fun k => fb.contains k)).length + (nats [x]).length) * 8 ≤ 140737488355328) := by show _ ≤ _; rw [nats_length, nats_length]; have := LT.out; show (_ + 1) * 8 ≤ _; omega
        have B1 := Lib.hid (HX.out.alloc (.cells #[.int .i64 x] 3)).size
        clear hc
        go_wp2_with fail
        refine CC.out.mono ?_
        rw [D2.out]
        rintro e w3 ⟨rfl, rfl⟩
        go_wp2_with (at_builtin; refine wpList_app rfl (.tmp 21) (.tmp 23) 89 rfl w2.heap.size 3 (.int .i64 0) 8 Try.underlying89 infoInt rfl (by omega) _ _ _ (nats [x]) rfl rfl O2 RL.out (nats_one _) LL.out B1.out ?_; intro v4 w4 o4 g4 _)
        have X4 := Lib.hid ((HX.out.alloc _).grown g4 O2.lo)
        rw [nats_append] at o4
        have O4 := Lib.hid o4
        clear o4 g4 O2
        go_wp2_with fail
        exact ⟨⟨k + 1, by omega, by go_num, FT2.out.symm ▸ O4.out, X4.out⟩, by simp [intOf]; omega⟩
    · have h1 : (fa.length : Int) ≤ k := by omega
      have E : Hid (fa.take k = fa) := List.take_of_length_le (by omega)
      go_wp2_with fail
      go_ret
      refine ⟨_, rfl, ?_, X2.out.trans HX.out⟩
      rw [EB.out]
      exact (E.out ▸ HO.out).mono X2.out.size
end Go.Proofs.Ytijnadjgmmednaa.N
namespace Go.Proofs.Ytijnadjgmmednaa.N
open Go.RowKit
theorem infoStr : (Try.prog.info? 9).map (fun i => (i.zero, i.size, i.bytes)) = some (some (.string ⟨#[]⟩), 1, 16) := by kernel_rfl
def sls (xs : List (List UInt8)) : List Value := xs.map fun s => .string (S s)
theorem sls_length (xs : List (List UInt8)) : (sls xs).length = xs.length := by simp [sls]
theorem sls_append (xs ys : List (List UInt8)) : sls xs ++ sls ys = sls (xs ++ ys) := by simp [sls]
theorem sls_one (xs : List (List UInt8)) : ∀ u ∈ sls xs, u.oneCell' = true := by
  intro u hu; obtain ⟨s, _, rfl⟩ := List.mem_map.1 hu; rfl
def GivesS (w : World) (xs : List (List UInt8)) (e : Ending) (w' : World) : Prop := ∃ v, e = .returned v ∧ Own w' w.heap.size 9 v (sls xs) ∧ Ext w w'
set_option maxHeartbeats 3200000 in
set_option maxRecDepth 100000 in
theorem places_calls (T : Tr) : ∀ (a : List UInt8) (s : ByteArray) (p : Option Addr) (w : World), T.carets < 100000000 → a.length + T.carets < 100000000 → s = S a → Rep w T p →
    Calls Try.prog 169 #[.pointer p, .string s] w (GivesS w (T.places a)) := by
  induction T with
  | leaf =>
    intro a s p w _ _ _ hr
    obtain rfl := hr
    go_enter Try.func169, Try.ntmps169
    go_wp2_with fail
    go_ret
    exact ⟨_, rfl, Own.nil _ _ _, Ext.refl _⟩
  | node l r ihl ihr =>
    intro a s p w hc hl hs hr
    have op := hr.open
    clear hr
    obtain ⟨b, pl, pr, rfl, h0, h1, hl', hr'⟩ := op
    have e0 : Hid (s ++ ⟨#[48]⟩ = S (a ++ [48])) := by subst hs; exact S_append a [48]
    have e1 : Hid (s ++ ⟨#[49]⟩ = S (a ++ [49])) := by subst hs; exact S_append a [49]
    have z : s.size ≤ 100000000 := by subst hs; rw [S_size]; omega
    have z1 : (9223372036854775807 < s.size + 1) = False := eq_false (by omega)
    have H := Lib.hid (And.intro hl' hr')
    have hcc : (Tr.node l r).carets = 1 + l.carets + r.carets := rfl
    have HC : Hid (l.carets < 100000000 ∧ (a ++ [48]).length + l.carets < 100000000 ∧ r.carets < 100000000 ∧ (a ++ [49]).length + r.carets < 100000000) := ⟨by omega, by simp; omega, by omega, by simp; omega⟩
    have L1 : Hid (((sls [a]).length + (sls (l.places (a ++ [48]))).length) * 16 ≤ 140737488355328) := by rw [sls_length, sls_length, places_length]; show (1 + _) * 16 ≤ _; omega
    have L2 : Hid (((sls [a] ++ sls (l.places (a ++ [48]))).length + (sls (r.places (a ++ [49]))).length) * 16 ≤ 140737488355328) := by rw [List.length_append, sls_length, sls_length, sls_length, places_length, places_length]; show ((1 + _) + _) * 16 ≤ _; omega
    have OL : Hid (Own (w.alloc (.cells #[.string s] 9)).drew w.heap.size 9 (.slice (some ⟨w.heap.size, 0, none⟩) 1 1) (sls [a])) := by
      have := (Own.lit w w.heap.size 9 #[.string s] (Nat.le_refl _) (by show 1 ≤ maxLen; decide)).ext ((Ext.refl _).drew)
      subst hs; exact this
    have OB : Hid (∀ W, Ext w W → Own (W.alloc (.cells #[.string s] 9)) w.heap.size 9 (.slice (some ⟨W.heap.size, 0, none⟩) 1 1) (sls [a])) := fun W hW => by
      have := Own.lit W w.heap.size 9 #[.string s] hW.size (by show 1 ≤ maxLen; decide)
      subst hs; exact this
    have XL := Lib.hid ((Ext.alloc (Ext.refl w) (.cells #[.string s] 9)).drew)
    clear hl' hr' hs hc hl hcc
    go_enter Try.func169, Try.ntmps169
    go_wp2_with fail
    go_region_held3 (fun w' => w'.cell? ⟨b, 0, none⟩ = some (.pointer pl) ∧ w'.cell? ⟨b, 1, none⟩ = some (.pointer pr) ∧ Ext w w')
      (first | exact two_cells h0 h1 (Ext.drew (Ext.refl _)) | exact two_cells h0 h1 x4 | exact two_cells h0 h1 x3 | exact two_cells h0 h1 x2 | exact two_cells h0 h1 x1 | exact two_cells h0 h1 (Ext.alloc x1 _) | exact two_cells h0 h1 (Ext.drew (Ext.alloc (Ext.refl _) _)) | (go_split_ands; exact two_cells h0 h1 (Ext.alloc (by assumption) _)) | fail)
      (first
        | (go_at_call_of 169 (Value.pointer pl); refine (ihl _ _ _ _ HC.out.1 HC.out.2.1 e0.out (H.out.1.ext (by go_split_ands; assumption))).mono ?_; rintro e w1 ⟨v1, rfl, o1, hx1⟩; have x1 : Ext w w1 := (by first | exact XL.out.trans hx1 | exact (Ext.refl w).drew.trans hx1 | fail))
        | (go_at_call_of 169 (Value.pointer pr); refine (ihr _ _ _ _ HC.out.2.2.1 HC.out.2.2.2 e1.out (H.out.2.ext (by go_split_ands; assumption))).mono ?_; rintro e w3 ⟨v3, rfl, o3, hx3⟩; have x3 := x2.trans hx3)
        | (refine step_app (by rfl) (.tmp 8) (.tmp 15) 56 (by rfl) w.heap.size 9 (.string ⟨#[]⟩) 16 Try.underlying56 infoStr rfl (by omega) _ _ (sls [a]) (sls (l.places (a ++ [48]))) (by rfl) (by rfl) (OL.out.ext hx1) o1.reads (sls_one _) L1.out x1.size ?_; intro v2 w2 o2 g2 _; have x2 := x1.grown g2 (OL.out.lo))
        | (refine step_app (by rfl) (.tmp 8) (.tmp 15) 56 (by rfl) w.heap.size 9 (.string ⟨#[]⟩) 16 Try.underlying56 infoStr rfl (by omega) _ _ (sls [a]) (sls (l.places (a ++ [48]))) (by rfl) (by rfl) (OB.out _ x1) (o1.ext ((Ext.refl _).alloc _)).reads (sls_one _) L1.out (x1.alloc _).size ?_; intro v2 w2 o2 g2 _; have x2 := (x1.alloc _).grown g2 ((OB.out _ x1).lo))
        | (refine step_app (by rfl) (.tmp 16) (.tmp 23) 56 (by rfl) w.heap.size 9 (.string ⟨#[]⟩) 16 Try.underlying56 infoStr rfl (by omega) _ _ _ (sls (r.places (a ++ [49]))) (by rfl) (by rfl) (o2.ext hx3) o3.reads (sls_one _) L2.out x3.size ?_; intro v4 w4 o4 g4 _; have x4 := x3.grown g4 (o2.lo)) | fail)
    all_goals
      go_wp2_with fail
      go_ret
      refine ⟨_, rfl, ?_, x4⟩
      rw [sls_append, sls_append] at o4
      exact o4
theorem sls_get (xs : List (List UInt8)) (k : Nat) (h : k < xs.length) : (sls xs)[k]? = some (.string (S xs[k])) := by simp [sls, List.getElem?_eq_getElem h]
set_option maxHeartbeats 3200000 in
set_option maxRecDepth 100000 in
theorem turns_calls (bk : Bool) (T : Tr) (hT : T.carets < 1000000) (p : Option Addr) (w : World) (hr : Rep w T p) :
    Calls Try.prog 142 #[.pointer p, .bool bk] w (GivesS w (T.turns bk)) := by
  have C1 := Lib.hid (places_calls T [] ⟨#[]⟩ p w (by omega) (by simp; omega) rfl hr)
  have HR := Lib.hid hr
  have HN := Lib.hid (places_length T [])
  have LN : Hid ((T.places []).length < 1000000) := by show _ < _; rw [HN.out]; exact hT
  clear hr hT
  go_enter Try.func142, Try.ntmps142
  go_wp2_with fail
  refine C1.out.mono ?_
  rintro e w1 ⟨v1, rfl, o1, hx1⟩
  obtain ⟨A, c, rfl, _, rd1⟩ := o1.reads
  rw [sls_length] at rd1
  have RD := Lib.hid rd1
  have X1 := Lib.hid hx1
  have TD : Hid (T.turns bk = (T.places []).filter fun a => (turnT bk a T).isSome) := rfl
  have LN' : (T.places []).length < 1000000 := LN.out
  clear rd1 hx1 o1 C1 HN
  rw [sls_length]
  generalize T.places [] = ps at *
  go_wp2_with fail
  go_loopw [5, 13] (fun v i wr => ∃ k : Nat, k ≤ ps.length ∧ i = .int .i64 k ∧ Own wr w1.heap.size 9 v (sls ((ps.take k).filter fun a => (turnT bk a T).isSome)) ∧ Ext w1 wr) (fun _ i _ => ps.length - (intOf i).toNat)
  case atStart => exact ⟨0, Nat.zero_le _, rfl, Own.nil _ _ _, Ext.refl _⟩
  case round =>
    obtain ⟨k, hk, rfl, ho, hx⟩ := hrel
    have HO := Lib.hid ho
    have HX := Lib.hid hx
    clear ho hx
    by_cases hlt : k < ps.length
    · obtain ⟨ad, rfl, ca⟩ := RD.out (by omega)
      have c1 := HX.out.cell (ca k _ (sls_get ps k hlt))
      have h0 : (0 : Int) ≤ k := by omega
      have h1 : (k : Int) < ps.length := by omega
      have FT := Lib.hid (filter_take (fun a => (turnT bk a T).isSome) ps k hlt)
      have LT : Hid (((ps.take k).filter fun a => (turnT bk a T).isSome).length ≤ k) := Nat.le_trans (List.length_filter_le _ _) (List.length_take_le _ _)
      clear ca
      generalize ps[k] = a at *
      have C := turn_calls bk a T (S a) p wr rfl (HR.out.ext (X1.out.trans HX.out))
      cases ht : turnT bk a T with
      | none =>
        rw [ht] at C
        have FT2 : Hid ((ps.take (k + 1)).filter (fun a => (turnT bk a T).isSome) = (ps.take k).filter (fun a => (turnT bk a T).isSome)) := Lib.hid (by have := FT.out; simp only [ht] at this; simpa using this)
        have C := Lib.hid C
        clear ht
        go_wp2_with fail
        refine C.out.mono ?_
        rintro e w2 ⟨hx2, q, rfl⟩
        have O2 := Lib.hid (HO.out.ext hx2)
        have X2 := Lib.hid (HX.out.trans hx2)
        clear hx2
        go_wp2_with fail
        exact ⟨⟨k + 1, by omega, by go_num, by rw [FT2.out]; exact O2.out, X2.out⟩, by simp [intOf]; omega⟩
      | some T' =>
        rw [ht] at C
        have FT2 : Hid ((ps.take (k + 1)).filter (fun a => (turnT bk a T).isSome) = (ps.take k).filter (fun a => (turnT bk a T).isSome) ++ [a]) := Lib.hid (by have := FT.out; simp only [ht] at this; simpa using this)
        have C := Lib.hid C
        clear ht
        go_wp2_with fail
        refine C.out.mono ?_
        rintro e w2 ⟨hx2, q, rfl, hq⟩
        have O2 := Lib.hid (HO.out.ext hx2)
        have X2 := Lib.hid (HX.out.trans hx2)
        clear hx2 hq
        have R1 := Lib.hid (Own.lit w2 0 9 #[.string (S a)] (Nat.zero_le _) (by show 1 ≤ maxLen; decide)).reads
        have L1 : Hid (((sls ((ps.take k).filter fun a => (turnT bk a T).isSome)).length + (sls [a]).length) * 16 ≤ 140737488355328) := by have := LT.out; rw [sls_length, sls_length]; show (_ + 1) * 16 ≤ _; omega
        have B1 := (X2.out.alloc (.cells #[.string (S a)] 9)).size
        go_wp2_with (at_builtin; refine wpList_app rfl (.tmp 25) (.tmp 27) 56 rfl w1.heap.size 9 (.string ⟨#[]⟩) 16 Try.underlying56 infoStr rfl (by omega) _ _ _ (sls [a]) rfl rfl (O2.out.ext ((Ext.refl _).alloc _)) R1.out (sls_one _) L1.out B1 ?_; intro v3 w3 o3 g3 _)
        have O3 := Lib.hid o3
        have X3 := Lib.hid ((X2.out.alloc _).grown g3 O2.out.lo)
        clear o3 g3
        go_wp2_with fail
        exact ⟨⟨k + 1, by omega, by go_num, by rw [FT2.out, ← sls_append]; exact O3.out, X3.out⟩, by simp [intOf]; omega⟩
    · have h1 : (ps.length : Int) ≤ k := by omega
      have E : Hid (ps.take k = ps) := List.take_of_length_le (by omega)
      go_wp2_with fail
      go_ret
      refine ⟨_, rfl, ?_, X1.out.trans HX.out⟩
      rw [TD.out]
      have h := HO.out
      rw [E.out] at h
      exact h.mono X1.out.size
theorem rotSome (bk : Bool) (T : Tr) (hT : T.carets ≤ 50) (w : World) :
    Calls Try.prog 171 #[.string (tx T), .bool bk] w fun e w' => (∃ n, w' = w.drewN n) ∧ ∃ s : ByteArray, e = .returned (.tuple #[.string s, .bool (rot bk T).isSome]) := by
  refine (brRotate_calls bk T hT w).mono ?_
  rintro e w' ⟨h1, h2⟩
  refine ⟨h1, ?_⟩
  cases ho : rot bk T with
  | none => rw [ho] at h2; obtain ⟨s, _, rfl⟩ := h2; exact ⟨s, rfl⟩
  | some T' => rw [ho] at h2; exact ⟨tx T', h2⟩
set_option maxHeartbeats 3200000 in
set_option maxRecDepth 100000 in
theorem brPlaces_calls (bk : Bool) (T : Tr) : ∀ (a : List UInt8) (s : ByteArray) (w : World), T.carets ≤ 50 → a.length + T.carets < 100000000 → s = S a →
    Calls Try.prog 144 #[.string (tx T), .string s, .bool bk] w (GivesS w (brPl bk T a)) := by
  induction T with
  | leaf =>
    intro a s w _ _ _
    go_enter Try.func144, Try.ntmps144
    go_wp2_with fail
    refine (trLeaf_leaf _).mono ?_
    rintro e w1 ⟨rfl, rfl⟩
    go_wp2_with fail
    go_ret
    exact ⟨_, rfl, Own.nil _ _ _, Ext.refl _⟩
  | node l r ihl ihr =>
    intro a s w hc hl hs
    have e0 : Hid (s ++ ⟨#[48]⟩ = S (a ++ [48])) := by subst hs; exact S_append a [48]
    have e1 : Hid (s ++ ⟨#[49]⟩ = S (a ++ [49])) := by subst hs; exact S_append a [49]
    have z : s.size ≤ 100000000 := by subst hs; rw [S_size]; omega
    have hd := (Tr.node l r).depth_le
    have hcc : (Tr.node l r).carets = 1 + l.carets + r.carets := rfl
    have CS := fun w => Lib.hid (trSides_calls l r (by omega) (by omega) w)
    have CR := fun w => rotSome bk (.node l r) hc w
    have C1 := fun w => ihl (a ++ [48]) _ w (by omega) (by simp; omega) e0.out
    have C2 := fun w => ihr (a ++ [49]) _ w (by omega) (by simp; omega) e1.out
    have NL := brPl_length bk l (a ++ [48])
    have NR := brPl_length bk r (a ++ [49])
    have HS := Lib.hid hs
    have RB : Hid (brPl bk (.node l r) a = ((if (rot bk (.node l r)).isSome then [a] else []) ++ brPl bk l (a ++ [48])) ++ brPl bk r (a ++ [49])) := rfl
    cases hb : (rot bk (.node l r)).isSome with
    | false =>
      rw [hb] at RB
      simp only [hb] at CR
      have L1 : Hid (((sls []).length + (sls (brPl bk l (a ++ [48]))).length) * 16 ≤ 140737488355328) := by show (0 + _) * 16 ≤ _; rw [sls_length]; omega
      have L2 : Hid (((sls [] ++ sls (brPl bk l (a ++ [48]))).length + (sls (brPl bk r (a ++ [49]))).length) * 16 ≤ 140737488355328) := by show _ * 16 ≤ _; rw [List.length_append, sls_length, sls_length, sls_length]; show (0 + _ + _) * 16 ≤ _; omega
      clear hc hl hs hd hcc ihl ihr hb NL NR
      go_enter Try.func144, Try.ntmps144
      go_wp2_with fail
      refine (trLeaf_node _ _ _).mono ?_
      rintro e w1 ⟨rfl, rfl⟩
      go_wp2_with fail
      refine (CR _).mono ?_
      rintro e w1 ⟨⟨n, rfl⟩, s2, rfl⟩
      go_wp2_with fail
      refine ((CS _).out).mono ?_
      rintro e w1 ⟨rfl, n2, rfl⟩
      go_wp2_with fail
      refine (C1 _).mono ?_
      rintro e w2 ⟨v2, rfl, o2, hx2⟩
      have x2 := ((Ext.refl w).drewN _).trans hx2
      have ON := Own.nil w2 w.heap.size 9
      have LX := Lib.hid x2.size
      go_wp2_with (at_builtin; refine wpList_app rfl (.tmp 30) (.tmp 35) 56 rfl w.heap.size 9 (.string ⟨#[]⟩) 16 Try.underlying56 infoStr rfl (by omega) _ _ _ (sls (brPl bk l (a ++ [48]))) rfl rfl ON o2.reads (sls_one _) L1.out LX.out ?_; intro v3 w3 o3 g3 _)
      have x3 := x2.grown g3 (Own.lo ON)
      have HX3 := Lib.hid x3
      have HO3 := Lib.hid o3
      clear hx2 x2 o2 g3 x3 o3 LX ON
      refine (C2 _).mono ?_
      rintro e w4 ⟨v4, rfl, o4, hx4⟩
      have x4 := HX3.out.trans hx4
      have O3 := HO3.out.ext hx4
      have LX := Lib.hid x4.size
      go_wp2_with (at_builtin; refine wpList_app rfl (.tmp 37) (.tmp 42) 56 rfl w.heap.size 9 (.string ⟨#[]⟩) 16 Try.underlying56 infoStr rfl (by omega) _ _ _ (sls (brPl bk r (a ++ [49]))) rfl rfl O3 o4.reads (sls_one _) L2.out LX.out ?_; intro v5 w5 o5 g5 _)
      have X5 := Lib.hid (x4.grown g5 O3.lo)
      have HO5 := Lib.hid o5
      clear g5 o5 x4 hx4 O3 o4
      go_wp2_with fail
      go_ret
      refine ⟨_, rfl, ?_, X5.out⟩
      rw [RB.out]
      have := HO5.out
      rw [show (([] : List Value) ++ sls (brPl bk l (a ++ [48]))) ++ sls (brPl bk r (a ++ [49])) = sls (([] ++ brPl bk l (a ++ [48])) ++ brPl bk r (a ++ [49])) from by simp [sls]] at this
      exact this
    | true =>
      rw [hb] at RB
      simp only [hb] at CR
      have L0 : Hid (((sls []).length + (sls [a]).length) * 16 ≤ 140737488355328) := by show (0 + 1) * 16 ≤ _; omega
      have L1 : Hid (((sls [] ++ sls [a]).length + (sls (brPl bk l (a ++ [48]))).length) * 16 ≤ 140737488355328) := by show (1 + _) * 16 ≤ _; rw [sls_length]; omega
      have L2 : Hid ((((sls [] ++ sls [a]) ++ sls (brPl bk l (a ++ [48]))).length + (sls (brPl bk r (a ++ [49]))).length) * 16 ≤ 140737488355328) := by show _ * 16 ≤ _; rw [List.length_append, List.length_append, sls_length, sls_length, sls_length, sls_length]; show (0 + 1 + _ + _) * 16 ≤ _; omega
      clear hc hl hs hd hcc ihl ihr hb NL NR
      go_enter Try.func144, Try.ntmps144
      go_wp2_with fail
      refine (trLeaf_node _ _ _).mono ?_
      rintro e w1 ⟨rfl, rfl⟩
      go_wp2_with fail
      refine (CR _).mono ?_
      rintro e w1 ⟨⟨n, rfl⟩, s2, rfl⟩
      have X1 := Lib.hid ((Ext.refl w).drewN n)
      generalize w.drewN n = w1 at *
      have ON := Own.nil (w1.alloc (.cells #[.string s] 9)) w.heap.size 9
      have RL : Reads (w1.alloc (.cells #[.string s] 9)) (.slice (some ⟨w1.heap.size, 0, none⟩) 1 1) (sls [a]) := by
        have := (Own.lit w1 0 9 #[.string s] (Nat.zero_le _) (by show 1 ≤ maxLen; decide)).reads
        rw [HS.out] at this ⊢; exact this
      have LX := Lib.hid (X1.out.alloc (.cells #[.string s] 9)).size
      go_wp2_with (at_builtin; refine wpList_app rfl (.tmp 21) (.tmp 23) 56 rfl w.heap.size 9 (.string ⟨#[]⟩) 16 Try.underlying56 infoStr rfl (by omega) _ _ _ (sls [a]) rfl rfl ON RL (sls_one _) L0.out LX.out ?_; intro v6 w6 o6 g6 _)
      have X6 := Lib.hid ((X1.out.alloc _).grown g6 ON.lo)
      have HO6 := Lib.hid o6
      clear g6 o6 RL ON LX X1
      refine ((CS _).out).mono ?_
      rintro e w1 ⟨rfl, n2, rfl⟩
      go_wp2_with fail
      refine (C1 _).mono ?_
      rintro e w2 ⟨v2, rfl, o2, hx2⟩
      have x2 := (X6.out.drewN _).trans hx2
      have ON := HO6.out.ext (((Ext.refl _).drewN _).trans hx2)
      have LX := Lib.hid x2.size
      go_wp2_with (at_builtin; refine wpList_app rfl (.tmp 30) (.tmp 35) 56 rfl w.heap.size 9 (.string ⟨#[]⟩) 16 Try.underlying56 infoStr rfl (by omega) _ _ _ (sls (brPl bk l (a ++ [48]))) rfl rfl ON o2.reads (sls_one _) L1.out LX.out ?_; intro v3 w3 o3 g3 _)
      have x3 := x2.grown g3 (Own.lo ON)
      have HX3 := Lib.hid x3
      have HO3 := Lib.hid o3
      clear hx2 x2 o2 g3 x3 o3 LX ON
      refine (C2 _).mono ?_
      rintro e w4 ⟨v4, rfl, o4, hx4⟩
      have x4 := HX3.out.trans hx4
      have O3 := HO3.out.ext hx4
      have LX := Lib.hid x4.size
      go_wp2_with (at_builtin; refine wpList_app rfl (.tmp 37) (.tmp 42) 56 rfl w.heap.size 9 (.string ⟨#[]⟩) 16 Try.underlying56 infoStr rfl (by omega) _ _ _ (sls (brPl bk r (a ++ [49]))) rfl rfl O3 o4.reads (sls_one _) L2.out LX.out ?_; intro v5 w5 o5 g5 _)
      have X5 := Lib.hid (x4.grown g5 O3.lo)
      have HO5 := Lib.hid o5
      clear g5 o5 x4 hx4 O3 o4
      go_wp2_with fail
      go_ret
      refine ⟨_, rfl, ?_, X5.out⟩
      rw [RB.out]
      have := HO5.out
      rw [show ((([] : List Value) ++ sls [a]) ++ sls (brPl bk l (a ++ [48]))) ++ sls (brPl bk r (a ++ [49])) = sls (([a] ++ brPl bk l (a ++ [48])) ++ brPl bk r (a ++ [49])) from by simp [sls]] at this
      exact this
end Go.Proofs.Ytijnadjgmmednaa.N
namespace Go.Proofs.Ytijnadjgmmednaa.N
open Go.RowKit
set_option maxHeartbeats 3200000 in
set_option maxRecDepth 100000 in
theorem trExposed_calls (l : List UInt8) (hl : l.length < 1000000) (w : World) :
    Calls Try.prog 154 #[.string (S l)] w (GivesN w (exS false l 0)) := by
  go_enter Try.func154, Try.ntmps154
  go_wp2_with fail
  go_loopw [3, 4, 5] (fun o n i wr => ∃ (j k : Nat) (acc : List Nat), j ≤ l.length ∧ k ≤ j ∧ i = .int .i64 j ∧ n = .int .i64 k ∧ Hid (acc.length ≤ j ∧ exS false l 0 = acc ++ exS (prev l j) (l.drop j) k) ∧ Hid (Own wr w.heap.size 3 o (nats acc)) ∧ Hid (Ext w wr)) (fun _ _ i _ => l.length - (intOf i).toNat)
  case atStart => exact ⟨0, 0, [], Nat.zero_le _, Nat.le_refl _, rfl, rfl, ⟨Nat.le_refl _, rfl⟩, Own.nil _ _ _, Ext.refl _⟩
  case round =>
    obtain ⟨j, k, acc, hj, hk, rfl, rfl, HE, HO, HX⟩ := hrel
    by_cases hlt : j < l.length
    · obtain ⟨c, hc⟩ : ∃ c, l[j]? = some c := ⟨_, List.getElem?_eq_getElem hlt⟩
      have ST := exS_step l j k c hc
      have TE := ex_test l j hlt
      have h1 : (j : Int) < (S l).size := by show (j : Int) < (l.length : Nat); omega
      have h0 : (0 : Int) ≤ j := by omega
      obtain ⟨x1, x2⟩ := s_at (S l) j c (by rw [S_toList]; exact hc)
      have SE : Hid ((S l).extract (j - 1) (j + 3) = S ((l.take (j + 3)).drop (j - 1))) := S_extract l (j - 1) (j + 3)
      have SZ : Hid ((S l).size = l.length) := rfl
      have KT : Hid ((if c = 46 then k + 1 else k) ≤ j + 1) := by show _ ≤ _; split <;> omega
      by_cases hT : 0 < j ∧ j + 2 < l.length ∧ (l.take (j + 3)).drop (j - 1) = [40, 46, 46, 41]
      · have hcc : c = 46 := by
          have e1 : (l.take (j + 3)).drop (j - 1) = (l.drop (j - 1)).take 4 := by rw [List.drop_take]; congr 1; omega
          have e2 : ((l.take (j + 3)).drop (j - 1))[1]? = some 46 := by rw [hT.2.2]; rfl
          rw [e1, List.getElem?_take_of_lt (by omega), List.getElem?_drop, show j - 1 + 1 = j from by omega, hc] at e2
          exact Option.some.inj e2
        subst hcc
        have HE2 : Hid ((acc ++ [k]).length ≤ j + 1 ∧ exS false l 0 = (acc ++ [k]) ++ exS (prev l (j + 1)) (l.drop (j + 1)) (k + 1)) := by
          refine ⟨by simp; exact HE.out.1, ?_⟩
          rw [HE.out.2, ST, TE, decide_eq_true hT, List.append_assoc]; rfl
        have t1 : (0 : Int) < j := by omega
        have t2 : (j : Int) + 2 < (S l).size := by rw [SZ.out]; omega
        have t3 : (((S l).extract (j - 1) (j + 3)).toList == [40, 46, 46, 41]) = true := by rw [SE.out, S_toList, hT.2.2]; rfl
        have t4 : (((46 : UInt8).toNat : Int) == 46) = true := rfl
        have RL := Lib.hid (Own.lit wr 0 3 #[.int .i64 k] (Nat.zero_le _) (by show 1 ≤ maxLen; decide)).reads
        have O2 := HO.out.ext ((Ext.refl _).alloc (.cells #[.int .i64 k] 3))
        have LL : Hid (((nats acc).length + (nats [k]).length) * 8 ≤ 140737488355328) := by show _ ≤ _; rw [nats_length, nats_length]; have := HE.out.1; show (_ + 1) * 8 ≤ _; omega
        have B1 := Lib.hid (HX.out.alloc (.cells #[.int .i64 k] 3)).size
        clear hc ST TE hT
        go_wp2_with (at_builtin; refine wpList_app rfl (.tmp 30) (.tmp 32) 89 rfl w.heap.size 3 (.int .i64 0) 8 Try.underlying89 infoInt rfl (by omega) _ _ _ (nats [k]) rfl rfl O2 RL.out (nats_one _) LL.out B1.out ?_; intro v4 w4 o4 g4 _)
        have X4 := Lib.hid ((HX.out.alloc _).grown g4 O2.lo)
        rw [nats_append] at o4
        have O4 := Lib.hid o4
        clear o4 g4 O2
        go_wp2_with fail
        exact ⟨⟨j + 1, k + 1, acc ++ [k], by omega, by omega, by go_num, by go_num, HE2.out, O4.out, X4.out⟩, by simp [intOf]; omega⟩
      · have HE2 : Hid (acc.length ≤ j + 1 ∧ exS false l 0 = acc ++ exS (prev l (j + 1)) (l.drop (j + 1)) (if c = 46 then k + 1 else k)) := by
          refine ⟨by have := HE.out.1; omega, ?_⟩
          rw [HE.out.2, ST, TE, decide_eq_false hT]; rfl
        have TT : (0 < j → j + 2 < l.length → (((S l).extract (j - 1) (j + 3)).toList == [40, 46, 46, 41]) = false) := by
          intro a b
          rw [SE.out, S_toList, beq_eq_false_iff_ne]
          exact fun e => hT ⟨a, b, e⟩
        clear hc ST TE hT
        rcases Nat.eq_zero_or_pos j with q0 | q0
        · subst q0
          clear TT
          by_cases c1 : c = 46
          · have t1 : ((c.toNat : Int) == 46) = true := by subst c1; rfl
            have HE3 := Lib.hid (by have := HE2.out; rw [if_pos c1] at this; exact this)
            clear c1
            go_wp2_with fail
            exact ⟨⟨0 + 1, k + 1, acc, by omega, by omega, by go_num, by go_num, HE3.out, HO.out, HX.out⟩, by simp [intOf]; omega⟩
          · have t1 : ((c.toNat : Int) == 46) = false := byte_ne c1
            have HE3 := Lib.hid (by have := HE2.out; rw [if_neg c1] at this; exact this)
            clear c1
            go_wp2_with fail
            exact ⟨⟨0 + 1, k, acc, by omega, by omega, by go_num, by go_num, HE3.out, HO.out, HX.out⟩, by simp [intOf]; omega⟩
        · have t2 : (0 : Int) < j := by omega
          by_cases q1 : j + 2 < l.length
          · have t3 : (j : Int) + 2 < (S l).size := by rw [SZ.out]; omega
            have t4 := TT q0 q1
            clear TT
            by_cases c1 : c = 46
            · have t1 : ((c.toNat : Int) == 46) = true := by subst c1; rfl
              have HE3 := Lib.hid (by have := HE2.out; rw [if_pos c1] at this; exact this)
              clear c1
              go_wp2_with fail
              exact ⟨⟨j + 1, k + 1, acc, by omega, by omega, by go_num, by go_num, HE3.out, HO.out, HX.out⟩, by simp [intOf]; omega⟩
            · have t1 : ((c.toNat : Int) == 46) = false := byte_ne c1
              have HE3 := Lib.hid (by have := HE2.out; rw [if_neg c1] at this; exact this)
              clear c1
              go_wp2_with fail
              exact ⟨⟨j + 1, k, acc, by omega, by omega, by go_num, by go_num, HE3.out, HO.out, HX.out⟩, by simp [intOf]; omega⟩
          · have t3 : ¬ (j : Int) + 2 < (S l).size := by rw [SZ.out]; omega
            have t4 : ((S l).size : Int) ≤ (j : Int) + 2 := by omega
            clear TT
            by_cases c1 : c = 46
            · have t1 : ((c.toNat : Int) == 46) = true := by subst c1; rfl
              have HE3 := Lib.hid (by have := HE2.out; rw [if_pos c1] at this; exact this)
              clear c1
              go_wp2_with fail
              exact ⟨⟨j + 1, k + 1, acc, by omega, by omega, by go_num, by go_num, HE3.out, HO.out, HX.out⟩, by simp [intOf]; omega⟩
            · have t1 : ((c.toNat : Int) == 46) = false := byte_ne c1
              have HE3 := Lib.hid (by have := HE2.out; rw [if_neg c1] at this; exact this)
              clear c1
              go_wp2_with fail
              exact ⟨⟨j + 1, k, acc, by omega, by omega, by go_num, by go_num, HE3.out, HO.out, HX.out⟩, by simp [intOf]; omega⟩
    · have h1 : ((S l).size : Int) ≤ j := by show ((l.length : Nat) : Int) ≤ j; omega
      have HE2 : Hid (exS false l 0 = acc) := by
        show _ = _
        rw [HE.out.2, List.drop_eq_nil_of_le (by omega)]; simp [exS]
      go_wp2_with fail
      go_ret
      exact ⟨_, rfl, HE2.out.symm ▸ HO.out, HX.out⟩
theorem dots_snoc (l : List UInt8) (c : UInt8) : dots (l ++ [c]) = dots l + if c = 46 then 1 else 0 := by
  simp [dots, List.countP_append, List.countP_cons]
theorem dots_le (l : List UInt8) : dots l ≤ l.length := List.countP_le_length
set_option maxHeartbeats 1600000 in
theorem l1Has_calls (xs : List Int) (n : Int) (hl : xs.length < 100000000) (v : Value) (w : World) (hv : Reads w v (ints xs)) :
    Calls Try.prog 155 #[v, .int .i64 n] w fun e w' => e = .returned (.bool (decide (n ∈ xs))) ∧ w = w' := by
  obtain ⟨A, c, rfl, _, rd⟩ := hv
  rw [ints_length] at *
  have RD := Lib.hid rd
  clear rd
  go_enter Try.func155, Try.ntmps155
  go_wp2_with fail
  go_loop [9] (fun i => ∃ k : Nat, k ≤ xs.length ∧ i = .int .i64 k ∧ Hid ((n ∈ xs) ↔ (n ∈ xs.drop k))) (fun i => xs.length - (intOf i).toNat)
  case atStart => exact ⟨0, Nat.zero_le _, rfl, Iff.rfl⟩
  case round =>
    obtain ⟨k, hk, rfl, HI⟩ := hrel
    by_cases hlt : k < xs.length
    · obtain ⟨ad, rfl, ca⟩ := RD.out (by omega)
      have c1 := ca k _ (ints_get xs k hlt)
      have h0 : (0 : Int) ≤ k := by omega
      have h1 : (k : Int) < xs.length := by omega
      have HD : Hid (xs.drop k = xs[k] :: xs.drop (k + 1)) := List.drop_eq_getElem_cons hlt
      clear ca
      by_cases hx : xs[k] = n
      · have HE : Hid (decide (n ∈ xs) = true) := by show _ = _; rw [decide_eq_true_eq, HI.out, HD.out, hx]; exact List.mem_cons_self
        rw [hx] at c1
        clear hx HD
        go_wp2
        go_ret
        exact ⟨by rw [HE.out]; rfl, rfl⟩
      · have HE : Hid ((n ∈ xs) ↔ (n ∈ xs.drop (k + 1))) := by
          show _ ↔ _
          rw [HI.out, HD.out, List.mem_cons]
          exact ⟨fun h => h.resolve_left (fun e => hx e.symm), .inr⟩
        have t1 : (xs[k] == n) = false := by rw [beq_eq_false_iff_ne]; exact hx
        clear hx HD
        generalize xs[k] = x at *
        go_wp2
        exact ⟨⟨k + 1, by omega, by go_num, HE.out⟩, by simp [intOf]; omega⟩
    · have h1 : (xs.length : Int) ≤ k := by omega
      have HE : Hid (decide (n ∈ xs) = false) := by show _ = _; rw [decide_eq_false_iff_not, HI.out, List.drop_eq_nil_of_le (by omega)]; simp
      go_wp2
      go_ret
      exact ⟨by rw [HE.out]; rfl, rfl⟩
set_option maxHeartbeats 3200000 in
set_option maxRecDepth 100000 in
theorem prBoth_calls (A B : Tr) (hA : A.carets < 1000) (hB : B.carets < 1000) (w : World) :
    Calls Try.prog 114 #[.agg #[.string (tx A), .string (tx B)]] w (GivesN w (bothT A B)) := by
  have X0 := Lib.hid ((Ext.refl w).alloc (.cells #[.string (tx A), .string (tx B)] 25))
  have C1 := Lib.hid (fun W => trExposed_calls B.txt (by have := B.txt_length; omega) W)
  have C2 := Lib.hid (fun W => trExposed_calls A.txt (by have := A.txt_length; omega) W)
  rw [exS_txt] at C1 C2
  have LA := expo_length A 0
  have LB := expo_length B 0
  have EB : Hid (bothT A B = (expo A 0).filter fun k => (expo B 0).contains k) := rfl
  have LA' : (expo A 0).length < 10000000 := by omega
  have LB' : (expo B 0).length < 10000000 := by omega
  clear LA LB hA hB
  generalize expo A 0 = fa at *
  generalize expo B 0 = fb at *
  go_enter Try.func114, Try.ntmps114
  go_wp2_with fail
  refine (C1.out _).mono ?_
  rintro e w1 ⟨v1, rfl, o1, x1⟩
  have O1 := Lib.hid o1
  have X1 := Lib.hid (X0.out.trans x1)
  have h1 : w1.cell? ⟨w.heap.size, 0, none⟩ = some (.string (tx A)) := x1.cell (by go_simp)
  clear o1 x1
  go_wp2_with fail
  refine (C2.out _).mono ?_
  rintro e w2 ⟨v2, rfl, o2, x2⟩
  obtain ⟨A2, c2, rfl, _, rd2⟩ := o2.reads
  rw [nats_length] at rd2 ⊢
  have RD := Lib.hid rd2
  have R1 := Lib.hid (O1.out.reads.ext x2)
  have X2 := Lib.hid (X1.out.trans x2)
  clear rd2 o2 x2 h1 O1
  go_wp2_with fail
  go_loopw [3, 14] (fun o i wr => ∃ k : Nat, k ≤ fa.length ∧ i = .int .i64 k ∧ Hid (Own wr w2.heap.size 3 o (nats ((fa.take k).filter fun k => fb.contains k))) ∧ Hid (Ext w2 wr)) (fun _ i _ => fa.length - (intOf i).toNat)
  case atStart => exact ⟨0, Nat.zero_le _, rfl, Own.nil _ _ _, Ext.refl _⟩
  case round =>
    obtain ⟨k, hk, rfl, HO, HX⟩ := hrel
    by_cases hlt : k < fa.length
    · obtain ⟨ad, rfl, ca⟩ := RD.out (by omega)
      have c1 := HX.out.cell (ca k _ (nats_get fa k hlt))
      have h0 : (0 : Int) ≤ k := by omega
      have h1 : (k : Int) < fa.length := by omega
      have FT := Lib.hid (filter_take (fun k => fb.contains k) fa k hlt)
      have LT : Hid (((fa.take k).filter fun k => fb.contains k).length ≤ k) := Nat.le_trans (List.length_filter_le _ _) (List.length_take_le _ _)
      clear ca
      generalize fa[k] = x at *
      have CC := Lib.hid (l1Has_calls (fb.map fun (n : Nat) => (n : Int)) x (by simp; omega) v1 wr (R1.out.ext HX.out))
      have DM : Hid (decide ((x : Int) ∈ fb.map fun (n : Nat) => (n : Int)) = fb.contains x) := by show _ = _; rw [Bool.eq_iff_iff, decide_eq_true_eq, mem_cast]; simp
      cases hc : fb.contains x with
      | false =>
        have FT2 : Hid ((fa.take (k + 1)).filter (fun k => fb.contains k) = (fa.take k).filter (fun k => fb.contains k)) := Lib.hid (by have := FT.out; rw [hc] at this; simpa using this)
        have D2 : Hid (decide ((x : Int) ∈ fb.map fun (n : Nat) => (n : Int)) = false) := Lib.hid (DM.out.trans hc)
        clear hc
        go_wp2_with fail
        refine CC.out.mono ?_
        rw [D2.out]
        rintro e w3 ⟨rfl, rfl⟩
        go_wp2_with fail
        exact ⟨⟨k + 1, by omega, by go_num, FT2.out.symm ▸ HO.out, HX.out⟩, by simp [intOf]; omega⟩
      | true =>
        have FT2 : Hid ((fa.take (k + 1)).filter (fun k => fb.contains k) = (fa.take k).filter (fun k => fb.contains k) ++ [x]) := Lib.hid (by have := FT.out; rw [hc] at this; simpa using this)
        have D2 : Hid (decide ((x : Int) ∈ fb.map fun (n : Nat) => (n : Int)) = true) := Lib.hid (DM.out.trans hc)
        have RL := Lib.hid (Own.lit wr 0 3 #[.int .i64 x] (Nat.zero_le _) (by show 1 ≤ maxLen; decide)).reads
        have O2 := HO.out.ext ((Ext.refl _).alloc (.cells #[.int .i64 x] 3))
        have LL : Hid (((nats ((fa.take k).filter fun k => fb.contains k)).length + (nats [x]).length) * 8 ≤ 140737488355328) := by show _ ≤ _; rw [nats_length, nats_length]; have := LT.out; show (_ + 1) * 8 ≤ _; omega
        have B1 := Lib.hid (HX.out.alloc (.cells #[.int .i64 x] 3)).size
        clear hc
        go_wp2_with fail
        refine CC.out.mono ?_
        rw [D2.out]
        rintro e w3 ⟨rfl, rfl⟩
        go_wp2_with (at_builtin; refine wpList_app rfl (.tmp 21) (.tmp 23) 89 rfl w2.heap.size 3 (.int .i64 0) 8 Try.underlying89 infoInt rfl (by omega) _ _ _ (nats [x]) rfl rfl O2 RL.out (nats_one _) LL.out B1.out ?_; intro v4 w4 o4 g4 _)
        have X4 := Lib.hid ((HX.out.alloc _).grown g4 O2.lo)
        rw [nats_append] at o4
        have O4 := Lib.hid o4
        clear o4 g4 O2
        go_wp2_with fail
        exact ⟨⟨k + 1, by omega, by go_num, FT2.out.symm ▸ O4.out, X4.out⟩, by simp [intOf]; omega⟩
    · have h1 : (fa.length : Int) ≤ k := by omega
      have E : Hid (fa.take k = fa) := List.take_of_length_le (by omega)
      go_wp2_with fail
      go_ret
      refine ⟨_, rfl, ?_, X2.out.trans HX.out⟩
      rw [EB.out]
      exact (E.out ▸ HO.out).mono X2.out.size
end Go.Proofs.Ytijnadjgmmednaa.N
namespace Go.Proofs.Ytijnadjgmmednaa.N
open Go.RowKit
def ReadsM (w : World) (v : Value) (xss : List (List Int)) : Prop :=
  ∃ vs : List Value, Reads w v vs ∧ vs.length = xss.length ∧ ∀ (r : Nat) (xs : List Int), xss[r]? = some xs → ∃ u, vs[r]? = some u ∧ Reads w u (ints xs)
theorem ReadsM.ext {w w' : World} {v : Value} {xss : List (List Int)} (h : ReadsM w v xss) (hx : Ext w w') : ReadsM w' v xss := by
  obtain ⟨vs, h1, h2, h3⟩ := h
  exact ⟨vs, h1.ext hx, h2, fun r xs e => let ⟨u, a, b⟩ := h3 r xs e; ⟨u, a, b.ext hx⟩⟩
theorem ReadsM.open {w : World} {v : Value} {xss : List (List Int)} (h : ReadsM w v xss) : ∃ A c, v = .slice A xss.length c ∧ (A = none → c = 0) ∧
    ∀ (r : Nat) (xs : List Int), xss[r]? = some xs → ∃ ad B d, A = some ad ∧ w.cell? (ad.add r) = some (.slice B xs.length d) ∧ Reads w (.slice B xs.length d) (ints xs) := by
  obtain ⟨vs, ⟨A, c, rfl, h0, h1⟩, h2, h3⟩ := h
  refine ⟨A, c, by rw [h2], h0, fun r xs e => ?_⟩
  obtain ⟨u, hu, k⟩ := h3 r xs e
  obtain ⟨ad, rfl, hc⟩ := h1 (by have := (List.getElem?_eq_some_iff.1 hu).1; omega)
  have hcu := hc r u hu
  obtain ⟨B, d, rfl, k0, k1⟩ := k
  rw [ints_length] at *
  exact ⟨ad, B, d, rfl, hcu, ⟨B, d, by rw [ints_length], k0, by rw [ints_length]; exact k1⟩⟩
def Rows (w : World) (base : Nat) (us : List Value) (xss : List (List Int)) : Prop :=
  us.length = xss.length ∧ (∀ (r : Nat) (xs : List Int), xss[r]? = some xs → ∃ u, us[r]? = some u ∧ Own w base 3 u (ints xs)) ∧
  ∀ (r s : Nat) (u v : Value), r < s → us[r]? = some u → us[s]? = some v → ∀ k, u.ownBlock = some k → v.ownBlock ≠ some k
def OwnM (w : World) (base : Nat) (v : Value) (xss : List (List Int)) : Prop := ∃ us, Own w base 89 v us ∧ Rows w base us xss
theorem OwnM.reads {w : World} {base : Nat} {v : Value} {xss : List (List Int)} (h : OwnM w base v xss) : ReadsM w v xss := by
  obtain ⟨us, h1, h2, h3, _⟩ := h
  exact ⟨us, h1.reads, h2, fun r xs e => let ⟨u, a, b⟩ := h3 r xs e; ⟨u, a, b.reads⟩⟩
theorem Rows.nil (w : World) (base : Nat) : Rows w base [] [] := ⟨rfl, fun r xs e => by simp at e, fun r s u v _ e => by simp at e⟩
theorem Rows.ext {w w' : World} {base : Nat} {us : List Value} {xss : List (List Int)} (h : Rows w base us xss) (hx : Ext w w') : Rows w' base us xss :=
  ⟨h.1, fun r xs e => let ⟨u, a, b⟩ := h.2.1 r xs e; ⟨u, a, b.ext hx⟩, h.2.2⟩
theorem Rows.mono {w : World} {base base' : Nat} {us : List Value} {xss : List (List Int)} (h : Rows w base us xss) (hb : base' ≤ base) : Rows w base' us xss :=
  ⟨h.1, fun r xs e => let ⟨u, a, b⟩ := h.2.1 r xs e; ⟨u, a, b.mono hb⟩, h.2.2⟩
theorem OwnM.ext {w w' : World} {base : Nat} {v : Value} {xss : List (List Int)} (h : OwnM w base v xss) (hx : Ext w w') : OwnM w' base v xss :=
  let ⟨us, a, b⟩ := h; ⟨us, a.ext hx, b.ext hx⟩
theorem OwnM.mono {w : World} {base base' : Nat} {v : Value} {xss : List (List Int)} (h : OwnM w base v xss) (hb : base' ≤ base) : OwnM w base' v xss :=
  let ⟨us, a, b⟩ := h; ⟨us, a.mono hb, b.mono hb⟩
theorem Rows.far {w w' : World} {base g : Nat} {us : List Value} {xss : List (List Int)} (h : Rows w base us xss) (hg : w.grownBy w' (some g)) (hb : g < base) : Rows w' base us xss :=
  ⟨h.1, fun r xs e => let ⟨u, a, b⟩ := h.2.1 r xs e; ⟨u, a, b.far hg (fun k hk hu => by cases hk; have := b.lo _ hu; omega)⟩, h.2.2⟩
theorem Rows.snoc {w : World} {base b0 : Nat} {us : List Value} {xss : List (List Int)} {u : Value} {xs : List Int} (h : Rows w base us xss) (hu : Own w b0 3 u (ints xs)) (hb : base ≤ b0)
    (hl : ∀ (v : Value), v ∈ us → ∀ k, v.ownBlock = some k → k < b0) : Rows w base (us ++ [u]) (xss ++ [xs]) := by
  refine ⟨by simp [h.1], fun r ys e => ?_, fun r s a b hrs ea eb k ha hb' => ?_⟩
  · rw [List.getElem?_append] at e
    split at e
    · rename_i hr
      obtain ⟨v, hv, k⟩ := h.2.1 r ys e
      exact ⟨v, by rw [List.getElem?_append_left (by rw [h.1]; exact hr)]; exact hv, k⟩
    · rename_i hr
      have : r = xss.length := by have := (List.getElem?_eq_some_iff.1 e).1; simp at this; omega
      subst this
      have e : xs = ys := by simpa using e
      subst e
      exact ⟨u, by rw [List.getElem?_append_right (by rw [h.1]; exact Nat.le_refl _)]; simp [h.1], hu.mono hb⟩
  · have hs : s < us.length + 1 := by have := (List.getElem?_eq_some_iff.1 eb).1; simpa using this
    have hr : r < us.length := by omega
    rw [List.getElem?_append_left hr] at ea
    by_cases hs2 : s < us.length
    · rw [List.getElem?_append_left hs2] at eb
      exact h.2.2 r s a b hrs ea eb k ha hb'
    · have : s = us.length := by omega
      subst this
      rw [List.getElem?_append_right (Nat.le_refl _)] at eb
      have e : u = b := by simpa using eb
      subst e
      have h1 := hu.lo k hb'
      have h2 := hl a (List.mem_of_getElem? ea) k ha
      omega
theorem Rows.lt {w : World} {base : Nat} {us : List Value} {xss : List (List Int)} (h : Rows w base us xss) : ∀ (v : Value), v ∈ us → ∀ k, v.ownBlock = some k → k < w.heap.size := by
  intro v hv k hk
  obtain ⟨r, hr, e⟩ := List.getElem_of_mem hv
  obtain ⟨u, hu, o⟩ := h.2.1 r (xss[r]'(by rw [← h.1]; exact hr)) (List.getElem?_eq_getElem _)
  rw [List.getElem?_eq_getElem hr, e] at hu
  cases hu
  exact (o.block k hk).2
structure Mid (us : List Value) (w w' : World) : Prop where
  os : w'.os = w.os
  tape : w'.tape = w.tape
  output : w'.output = w.output
  size : w.heap.size ≤ w'.heap.size
  block : ∀ i, i < w.heap.size → (∀ u ∈ us, u.ownBlock ≠ some i) → w'.heap[i]? = w.heap[i]?
theorem Mid.refl (us : List Value) (w : World) : Mid us w w := ⟨rfl, rfl, rfl, Nat.le_refl _, fun _ _ _ => rfl⟩
theorem Mid.step {us : List Value} {w w' w'' : World} {u : Value} (h : Mid us w w') (hg : w'.grownBy w'' u.ownBlock) (hu : u ∈ us) : Mid us w w'' :=
  ⟨hg.os.trans h.os, hg.tape.trans h.tape, hg.output.trans h.output, Nat.le_trans h.size hg.size, fun i hi hn => (hg.block i (Nat.lt_of_lt_of_le hi h.size) (fun e => hn u hu e.symm)).trans (h.block i hi hn)⟩
theorem Mid.ext {us : List Value} {w0 w w' : World} (h : Mid us w w') (hx : Ext w0 w) (hu : ∀ u ∈ us, ∀ k, u.ownBlock = some k → w0.heap.size ≤ k) : Ext w0 w' :=
  ⟨h.os.trans hx.os, h.tape.trans hx.tape, h.output.trans hx.output, Nat.le_trans hx.size h.size, fun i hi => (h.block i (Nat.lt_of_lt_of_le hi hx.size) (fun u hm e => by have := hu u hm i e; omega)).trans (hx.block i hi)⟩
theorem Own.same {w w' : World} {base : Nat} {e : TypeId} {v : Value} {xs : List Value} (h : Own w base e v xs) (hs : ∀ k, v.ownBlock = some k → w'.heap[k]? = w.heap[k]?) : Own w' base e v xs := by
  refine ⟨h.1, ?_⟩
  rcases h.2 with h | ⟨g, cap, cur, e1, h1, h2, h3⟩
  · exact .inl h
  · exact .inr ⟨g, cap, cur, e1, h1, by rw [hs g (by rw [e1]; rfl)]; exact h2, h3⟩
theorem Mid.own {us : List Value} {w w' : World} {base B : Nat} {e : TypeId} {v : Value} {xs : List Value} (h : Mid us w w') (o : Own w B e v xs) (hu : ∀ u ∈ us, ∀ k, u.ownBlock = some k → k < B) : Own w' B e v xs :=
  o.same fun k hk => h.block k (o.block k hk).2 fun u hm e => by have := hu u hm k e; have := o.lo k hk; omega
end Go.Proofs.Ytijnadjgmmednaa.N
namespace Go.Proofs.Ytijnadjgmmednaa.N
open Go.RowKit
def InN (n : Nat) (xs : List Int) : Prop := ∀ x ∈ xs, 0 ≤ x ∧ x < (n : Int)
instance (n : Nat) (xs : List Int) : Decidable (InN n xs) := by unfold InN; infer_instance
def RowN (n : Nat) (xs : List Int) : Prop := xs.length = n ∧ InN n xs
instance (n : Nat) (xs : List Int) : Decidable (RowN n xs) := by unfold RowN; infer_instance
def Tab (xss : List (List Int)) : Prop := (1 ≤ xss.length ∧ xss.length ≤ 4) ∧ ∀ xs ∈ xss, RowN xss.length xs
instance (xss : List (List Int)) : Decidable (Tab xss) := by unfold Tab; infer_instance
theorem l1In_calls (x lo hi : Int) (w : World) :
    Calls Try.prog 78 #[.int .i64 x, .int .i64 lo, .int .i64 hi] w fun e w' => e = .returned (.bool (decide (lo ≤ x ∧ x ≤ hi))) ∧ w = w' := by
  by_cases h1 : lo ≤ x
  · by_cases h2 : x ≤ hi
    · rw [decide_eq_true ⟨h1, h2⟩]
      go_enter Try.func78, Try.ntmps78
      go_wp2_with fail
      go_ret
      exact ⟨rfl, rfl⟩
    · rw [decide_eq_false (fun h => h2 h.2)]
      go_enter Try.func78, Try.ntmps78
      go_wp2_with fail
      go_ret
      exact ⟨rfl, rfl⟩
  · rw [decide_eq_false (fun h => h1 h.1)]
    go_enter Try.func78, Try.ntmps78
    go_wp2_with fail
    go_ret
    exact ⟨rfl, rfl⟩
def InI (lo hi : Int) (xs : List Int) : Prop := ∀ x ∈ xs, lo ≤ x ∧ x ≤ hi
instance (lo hi : Int) (xs : List Int) : Decidable (InI lo hi xs) := by unfold InI; infer_instance
end Go.Proofs.Ytijnadjgmmednaa.N
namespace Go.Proofs.Ytijnadjgmmednaa.N
open Go.RowKit
theorem Own.made (w : World) (n : Nat) (z : Value) (e : TypeId) (base : Nat) (hb : base ≤ w.heap.size) (hm : n ≤ maxLen) : Own (w.alloc (.cells (madeCells #[z] n) e)) base e (.slice (some ⟨w.heap.size, 0, none⟩) n n) (List.replicate n z) := by
  refine ⟨by simp, .inr ⟨w.heap.size, n, madeCells #[z] n, by simp, hb, heap_alloc_new w _, by simp, hm, by rw [size_madeCells]; simp, ?_⟩⟩
  simp only [List.length_replicate, Nat.mul_one]
  rw [List.take_of_length_le (by rw [Array.length_toList, size_madeCells]; exact Nat.le_refl _)]
  apply List.ext_getElem
  · simp [madeCells]
  · intro i h1 h2; simp [madeCells, Nat.mod_one]
end Go.Proofs.Ytijnadjgmmednaa.N
namespace Go.Proofs.Ytijnadjgmmednaa.N
open Go.RowKit
def okT (g : Nat → Nat → Nat) (i j k : Nat) : Prop := g i (g j k) = g (g i j) k
def IsBrk (n : Nat) (g : Nat → Nat → Nat) (l : List Int) : Prop :=
  (l = [] ∧ ∀ i j k, i < n → j < n → k < n → okT g i j k) ∨
  ∃ i j k, i < n ∧ j < n ∧ k < n ∧ l = [(i : Int), (j : Int), (k : Int)] ∧ ¬ okT g i j k ∧ (∀ i' j k, i' < i → j < n → k < n → okT g i' j k) ∧ (∀ j' k, j' < j → k < n → okT g i j' k) ∧ ∀ k', k' < k → okT g i j k'
theorem IsBrk.uniq {n : Nat} {g : Nat → Nat → Nat} {l l' : List Int} (h : IsBrk n g l) (h' : IsBrk n g l') : l = l' := by
  rcases h with ⟨rfl, h⟩ | ⟨i, j, k, hi, hj, hk, rfl, h1, h2, h3, h4⟩
  · rcases h' with ⟨rfl, h'⟩ | ⟨i, j, k, hi, hj, hk, rfl, h1, h2, h3, h4⟩
    · rfl
    · exact absurd (h i j k hi hj hk) h1
  · rcases h' with ⟨rfl, h'⟩ | ⟨i', j', k', hi', hj', hk', rfl, h1', h2', h3', h4'⟩
    · exact absurd (h' i j k hi hj hk) h1
    · have ei : i = i' := by
        rcases Nat.lt_trichotomy i i' with h | h | h
        · exact absurd (h2' i j k h hj hk) h1
        · exact h
        · exact absurd (h2 i' j' k' h hj' hk') h1'
      subst ei
      have ej : j = j' := by
        rcases Nat.lt_trichotomy j j' with h | h | h
        · exact absurd (h3' j k h hk) h1
        · exact h
        · exact absurd (h3 j' k' h hk') h1'
      subst ej
      have ek : k = k' := by
        rcases Nat.lt_trichotomy k k' with h | h | h
        · exact absurd (h4' k h) h1
        · exact h
        · exact absurd (h4 k' h) h1'
      rw [ek]
def TabR (w : World) (v : Value) (n : Nat) (g : Nat → Nat → Nat) : Prop :=
  ∃ (ad : Addr) (c : Nat) (bd : Nat → Addr) (cc : Nat → Nat), v = .slice (some ad) n c ∧ (∀ i, i < n → w.cell? (ad.add i) = some (.slice (some (bd i)) n (cc i))) ∧ ∀ i j, i < n → j < n → w.cell? ((bd i).add j) = some (.int .i64 (g i j))
theorem TabR.ext {w w' : World} {v : Value} {n : Nat} {g : Nat → Nat → Nat} (h : TabR w v n g) (hx : Ext w w') : TabR w' v n g := by
  obtain ⟨ad, c, bd, cc, e, h1, h2⟩ := h
  exact ⟨ad, c, bd, cc, e, fun i hi => hx.cell (h1 i hi), fun i j hi hj => hx.cell (h2 i j hi hj)⟩
def gOf (xss : List (List Int)) (i j : Nat) : Nat := ((xss.getD i []).getD j 0).toNat
theorem gOf_at {xss : List (List Int)} (h : Tab xss) {i j : Nat} {xs : List Int} (hi : xss[i]? = some xs) (hj : j < xss.length) : xs[j]? = some (gOf xss i j : Int) ∧ gOf xss i j < xss.length := by
  have hr := h.2 xs (List.mem_of_getElem? hi)
  have hl : j < xs.length := by rw [hr.1]; exact hj
  have e : xs[j]? = some xs[j] := List.getElem?_eq_getElem hl
  have hb := hr.2 _ (List.mem_of_getElem? e)
  have eg : gOf xss i j = xs[j].toNat := by
    unfold gOf
    rw [show xss.getD i [] = xs from by rw [List.getD_eq_getElem?_getD, hi]; rfl, List.getD_eq_getElem?_getD, e]
    rfl
  rw [eg, e]
  refine ⟨?_, by omega⟩
  congr 1
  omega
theorem ReadsM.tab {w : World} {v : Value} {xss : List (List Int)} (h : ReadsM w v xss) (hT : Tab xss) : TabR w v xss.length (gOf xss) := by
  obtain ⟨A, c, rfl, _, rows⟩ := h.open
  have hn : 0 < xss.length := hT.1.1
  obtain ⟨ad, rfl⟩ : ∃ ad, A = some ad := by obtain ⟨ad, _, _, e, _⟩ := rows 0 _ (List.getElem?_eq_getElem hn); exact ⟨ad, e⟩
  have pick : ∀ i, ∃ p : Addr × Nat, i < xss.length → w.cell? (ad.add i) = some (.slice (some p.1) xss.length p.2) ∧ ∀ j, j < xss.length → w.cell? (p.1.add j) = some (.int .i64 (gOf xss i j)) := by
    intro i
    by_cases hi : i < xss.length
    · have hx := List.getElem?_eq_getElem hi
      obtain ⟨ad', B, d, ea, hc, hr⟩ := rows i _ hx
      cases ea
      have hl := (hT.2 _ (List.mem_of_getElem? hx)).1
      obtain ⟨B', d', eb, _, hb⟩ := hr
      rw [ints_length] at hb
      injection eb with e1 _ e2
      subst e1
      obtain ⟨bd, rfl, hcc⟩ := hb (by omega)
      rw [hl] at hc
      refine ⟨(bd, d), fun _ => ⟨hc, fun j hj => hcc j _ ?_⟩⟩
      have := (gOf_at hT hx hj).1
      simp only [ints, List.getElem?_map, this, Option.map_some]
    · exact ⟨(ad, 0), fun h => absurd h hi⟩
  exact ⟨ad, c, fun i => (Classical.choose (pick i)).1, fun i => (Classical.choose (pick i)).2, rfl, fun i hi => (Classical.choose_spec (pick i) hi).1, fun i j hi hj => (Classical.choose_spec (pick i) hi).2 j hj⟩
end Go.Proofs.Ytijnadjgmmednaa.N
namespace Go.Proofs.Ytijnadjgmmednaa.N
def blt (a b : ByteArray) : Bool := Op.bytesLess a.toList b.toList
theorem bl_irrefl : ∀ l : List UInt8, Op.bytesLess l l = false
  | [] => rfl
  | a :: l => by simp [Op.bytesLess, bl_irrefl l, UInt8.lt_irrefl]
theorem bl_trans : ∀ a b c : List UInt8, Op.bytesLess a b = true → Op.bytesLess b c = true → Op.bytesLess a c = true
  | _, [], _, h, _ => by cases ‹List UInt8› <;> simp [Op.bytesLess] at h
  | _, _ :: _, [], _, h => by simp [Op.bytesLess] at h
  | [], _ :: _, _ :: _, _, _ => rfl
  | x :: a, y :: b, z :: c, h1, h2 => by
    simp only [Op.bytesLess, Bool.or_eq_true, decide_eq_true_eq, Bool.and_eq_true, beq_iff_eq] at h1 h2 ⊢
    rcases h1 with h1 | ⟨rfl, h1⟩
    · rcases h2 with h2 | ⟨rfl, h2⟩
      · exact .inl (UInt8.lt_trans h1 h2)
      · exact .inl h1
    · rcases h2 with h2 | ⟨rfl, h2⟩
      · exact .inl h2
      · exact .inr ⟨rfl, bl_trans a b c h1 h2⟩
theorem bl_total : ∀ a b : List UInt8, Op.bytesLess a b = false → Op.bytesLess b a = false → a = b
  | [], [], _, _ => rfl
  | [], _ :: _, h, _ => by simp [Op.bytesLess] at h
  | _ :: _, [], _, h => by simp [Op.bytesLess] at h
  | x :: a, y :: b, h1, h2 => by
    simp only [Op.bytesLess, Bool.or_eq_false_iff, decide_eq_false_iff_not, Bool.and_eq_false_imp, beq_iff_eq] at h1 h2
    have e : x = y := UInt8.le_antisymm (UInt8.not_lt.1 h2.1) (UInt8.not_lt.1 h1.1)
    subst e
    rw [bl_total a b (h1.2 rfl) (h2.2 rfl)]
theorem ba_ext {a b : ByteArray} (h : a.toList = b.toList) : a = b := by
  rw [S_of a, h, ← S_of b]
theorem blt_irrefl (a : ByteArray) : blt a a = false := bl_irrefl _
theorem blt_trans {a b c : ByteArray} (h1 : blt a b = true) (h2 : blt b c = true) : blt a c = true := bl_trans _ _ _ h1 h2
theorem blt_total {a b : ByteArray} (h1 : blt a b = false) (h2 : blt b a = false) : a = b := ba_ext (bl_total _ _ h1 h2)
theorem blt_ntrans {a b c : ByteArray} (h1 : blt a b = false) (h2 : blt b c = false) : blt a c = false := by
  cases h : blt a c with
  | false => rfl
  | true =>
    cases h3 : blt b a with
    | true => rw [blt_trans h3 h] at h2; cases h2
    | false => rw [blt_total h1 h3, h2] at h; cases h
def ins (x : ByteArray) : List ByteArray → List ByteArray
  | [] => [x]
  | y :: l => if blt y x then y :: ins x l else x :: y :: l
theorem ins_at (x : ByteArray) : ∀ (l : List ByteArray) (k : Nat), k ≤ l.length → (∀ j y, j < k → l[j]? = some y → blt y x = true) → (∀ y, l[k]? = some y → blt y x = false) → ins x l = l.take k ++ x :: l.drop k
  | [], k, hk, _, _ => by simp [ins]
  | y :: l, 0, _, _, h2 => by simp [ins, h2 y rfl]
  | y :: l, k + 1, hk, h1, h2 => by
    simp only [ins, h1 0 y (by omega) rfl, if_true, List.take_succ_cons, List.drop_succ_cons, List.cons_append]
    rw [ins_at x l k (by simpa using hk) (fun j z hj hz => h1 (j + 1) z (by omega) (by simpa using hz)) (fun z hz => h2 z (by simpa using hz))]
theorem ins_perm (x : ByteArray) : ∀ l, (ins x l).Perm (x :: l)
  | [] => List.Perm.refl _
  | y :: l => by
    simp only [ins]
    split
    · exact (List.Perm.cons y (ins_perm x l)).trans (List.Perm.swap x y l)
    · exact List.Perm.refl _
def Srt (l : List ByteArray) : Prop := l.Pairwise fun a b => blt b a = false
theorem ins_srt (x : ByteArray) : ∀ l, Srt l → Srt (ins x l)
  | [], _ => List.pairwise_singleton _ _
  | y :: l, h => by
    have h' := List.pairwise_cons.1 h
    simp only [ins]
    split
    · rename_i hy
      refine List.pairwise_cons.2 ⟨fun z hz => ?_, ins_srt x l h'.2⟩
      rcases List.mem_cons.1 ((ins_perm x l).mem_iff.1 hz) with rfl | hz
      · cases hc : blt z y with
        | false => rfl
        | true => have := blt_trans hc hy; rw [blt_irrefl] at this; cases this
      · exact h'.1 z hz
    · rename_i hy
      have hy : blt y x = false := by simpa using hy
      refine List.pairwise_cons.2 ⟨fun z hz => ?_, h⟩
      rcases List.mem_cons.1 hz with rfl | hz
      · exact hy
      · exact blt_ntrans (h'.1 z hz) hy
def srt (l : List ByteArray) : List ByteArray := l.foldl (fun acc x => ins x acc) []
theorem srt_snoc (l : List ByteArray) (x : ByteArray) : srt (l ++ [x]) = ins x (srt l) := by simp [srt, List.foldl_append]
theorem foldl_ins_perm : ∀ (l acc : List ByteArray), (l.foldl (fun acc x => ins x acc) acc).Perm (acc ++ l)
  | [], acc => by simp
  | x :: l, acc => by
    refine (foldl_ins_perm l (ins x acc)).trans ?_
    refine ((ins_perm x acc).append_right l).trans ?_
    exact (List.perm_middle (a := x) (l₁ := acc) (l₂ := l)).symm
theorem foldl_ins_srt : ∀ (l acc : List ByteArray), Srt acc → Srt (l.foldl (fun acc x => ins x acc) acc)
  | [], _, h => h
  | x :: l, acc, h => foldl_ins_srt l _ (ins_srt x acc h)
theorem srt_perm (l : List ByteArray) : (srt l).Perm l := foldl_ins_perm l []
theorem srt_srt (l : List ByteArray) : Srt (srt l) := foldl_ins_srt l [] List.Pairwise.nil
theorem srt_length (l : List ByteArray) : (srt l).length = l.length := (srt_perm l).length_eq
theorem srt_unique : ∀ (a b : List ByteArray), a.Perm b → Srt a → Srt b → a = b
  | [], b, h, _, _ => (List.nil_perm.1 h).symm
  | x :: a, [], h, _, _ => by cases List.perm_nil.1 h
  | x :: a, y :: b, h, h1, h2 => by
    have h1' := List.pairwise_cons.1 h1
    have h2' := List.pairwise_cons.1 h2
    have e : x = y := by
      rcases List.mem_cons.1 (h.mem_iff.1 (List.mem_cons_self (a := x) (l := a))) with e | m1
      · exact e
      · rcases List.mem_cons.1 (h.mem_iff.2 (List.mem_cons_self (a := y) (l := b))) with e | m2
        · exact e.symm
        · exact blt_total (h2'.1 x m1) (h1'.1 y m2) |>.symm ▸ rfl
    subst e
    rw [srt_unique a b (List.Perm.cons_inv h) h1'.2 h2'.2]
def moves (bk : Bool) (T : Tr) : List Tr := (T.turns bk).filterMap fun a => turnT bk a T
theorem moves_length (bk : Bool) (T : Tr) : (moves bk T).length = (T.turns bk).length := by
  unfold moves Tr.turns
  induction T.places [] with
  | nil => rfl
  | cons a l ih =>
    by_cases h : (turnT bk a T).isSome
    · obtain ⟨U, hU⟩ := Option.isSome_iff_exists.1 h
      rw [List.filter_cons_of_pos (p := fun a => (turnT bk a T).isSome) h]; simp only [List.filterMap_cons, hU, List.length_cons, ih]
    · rw [List.filter_cons_of_neg (p := fun a => (turnT bk a T).isSome) h]; exact ih
theorem moves_take (bk : Bool) (T : Tr) (k : Nat) (a : List UInt8) (h : (T.turns bk)[k]? = some a) : ∃ U, turnT bk a T = some U ∧ ((T.turns bk).take (k + 1)).filterMap (fun a => turnT bk a T) = ((T.turns bk).take k).filterMap (fun a => turnT bk a T) ++ [U] := by
  have hm : a ∈ T.turns bk := List.mem_of_getElem? h
  have hs : (turnT bk a T).isSome := by unfold Tr.turns at hm; exact (List.mem_filter.1 hm).2
  obtain ⟨U, hU⟩ := Option.isSome_iff_exists.1 hs
  refine ⟨U, hU, ?_⟩
  rw [List.take_add_one, h, List.filterMap_append]
  simp [hU]
theorem moves_carets {bk : Bool} {T U : Tr} (h : U ∈ moves bk T) : U.carets = T.carets := by
  unfold moves at h
  obtain ⟨a, _, h⟩ := List.mem_filterMap.1 h
  exact turnT_carets h
def near0 (T : Tr) : List Tr := moves false T ++ moves true T
def nearS (T : Tr) : List ByteArray := srt ((near0 T).map tx)
theorem near0_length (T : Tr) : (near0 T).length ≤ 2 * T.carets := by
  unfold near0
  rw [List.length_append, moves_length, moves_length]
  have := turns_length false T; have := turns_length true T; omega
theorem near0_carets {T U : Tr} (h : U ∈ near0 T) : U.carets = T.carets := by
  rcases List.mem_append.1 h with h | h <;> exact moves_carets h
end Go.Proofs.Ytijnadjgmmednaa.N
namespace Go.Proofs.Ytijnadjgmmednaa.N
def insT (x : Tr) : List Tr → List Tr
  | [] => [x]
  | y :: l => if blt (tx y) (tx x) then y :: insT x l else x :: y :: l
def srtT (l : List Tr) : List Tr := l.foldl (fun acc x => insT x acc) []
theorem insT_tx (x : Tr) : ∀ l, (insT x l).map tx = ins (tx x) (l.map tx)
  | [] => rfl
  | y :: l => by simp only [insT, ins, List.map_cons]; split <;> simp [insT_tx x l]
theorem insT_perm (x : Tr) : ∀ l, (insT x l).Perm (x :: l)
  | [] => List.Perm.refl _
  | y :: l => by
    simp only [insT]
    split
    · exact (List.Perm.cons y (insT_perm x l)).trans (List.Perm.swap x y l)
    · exact List.Perm.refl _
theorem foldl_insT_tx : ∀ (l acc : List Tr), (l.foldl (fun acc x => insT x acc) acc).map tx = (l.map tx).foldl (fun acc x => ins x acc) (acc.map tx)
  | [], acc => rfl
  | x :: l, acc => by simp only [List.foldl_cons, List.map_cons]; rw [foldl_insT_tx l, insT_tx]
theorem srtT_tx (l : List Tr) : (srtT l).map tx = srt (l.map tx) := foldl_insT_tx l []
theorem foldl_insT_perm : ∀ (l acc : List Tr), (l.foldl (fun acc x => insT x acc) acc).Perm (acc ++ l)
  | [], acc => by simp
  | x :: l, acc => by
    refine (foldl_insT_perm l (insT x acc)).trans ?_
    refine ((insT_perm x acc).append_right l).trans ?_
    exact (List.perm_middle (a := x) (l₁ := acc) (l₂ := l)).symm
theorem srtT_perm (l : List Tr) : (srtT l).Perm l := foldl_insT_perm l []
def rawJ (A : List Tr) (B : List Tr) : List Tr := A.flatMap fun a => B.map fun b => .node a b
def raw (f : Nat → List Tr) (n k : Nat) : List Tr := (List.range k).flatMap fun i => rawJ (f i) (f (n - 1 - i))
theorem raw_succ (f : Nat → List Tr) (n k : Nat) : raw f n (k + 1) = raw f n k ++ rawJ (f k) (f (n - 1 - k)) := by simp [raw, List.range_succ, List.flatMap_append]
theorem raw_congr {f g : Nat → List Tr} {n : Nat} (h : ∀ i, i < n → f i = g i) : ∀ k, k ≤ n → raw f n k = raw g n k
  | 0, _ => rfl
  | k + 1, hk => by rw [raw_succ, raw_succ, raw_congr h k (by omega), h k (by omega), h (n - 1 - k) (by omega)]
theorem rawJ_take (A B : List Tr) (i : Nat) (a : Tr) (h : A[i]? = some a) : rawJ (A.take (i + 1)) B = rawJ (A.take i) B ++ B.map fun b => .node a b := by
  rw [List.take_add_one, h]; simp [rawJ, List.flatMap_append]
theorem mapN_take (a : Tr) (B : List Tr) (j : Nat) (b : Tr) (h : B[j]? = some b) : (B.take (j + 1)).map (Tr.node a) = (B.take j).map (Tr.node a) ++ [.node a b] := by
  rw [List.take_add_one, h]; simp
theorem rawJ_length (A B : List Tr) : (rawJ A B).length = A.length * B.length := by
  unfold rawJ
  induction A with
  | nil => simp
  | cons a A ih => simp [List.flatMap_cons, ih, Nat.add_mul, Nat.add_comm]
def tab : Nat → List (List Tr)
  | 0 => [[.leaf]]
  | n + 1 => tab n ++ [srtT (raw (fun i => (tab n)[i]?.getD []) (n + 1) (n + 1))]
def TL (n : Nat) : List Tr := (tab n)[n]?.getD []
theorem tab_length : ∀ n, (tab n).length = n + 1
  | 0 => rfl
  | n + 1 => by simp [tab, tab_length n]
theorem tab_get : ∀ n i, i ≤ n → (tab n)[i]? = some (TL i)
  | 0, i, h => by obtain rfl : i = 0 := by omega
                  rfl
  | n + 1, i, h => by
    rcases Nat.lt_or_ge i (n + 1) with h1 | h1
    · rw [tab, List.getElem?_append_left (by rw [tab_length]; exact h1)]; exact tab_get n i (by omega)
    · obtain rfl : i = n + 1 := by omega
      unfold TL
      rw [tab, List.getElem?_append_right (by rw [tab_length]; exact Nat.le_refl _), tab_length, Nat.sub_self]
      rfl
theorem TL_zero : TL 0 = [.leaf] := rfl
theorem TL_succ (n : Nat) : TL (n + 1) = srtT (raw TL (n + 1) (n + 1)) := by
  have h := tab_get (n + 1) (n + 1) (Nat.le_refl _)
  rw [tab, List.getElem?_append_right (by rw [tab_length]; exact Nat.le_refl _), tab_length, Nat.sub_self] at h
  have h := (Option.some.inj h).symm
  rw [h]
  congr 1
  exact raw_congr (fun i hi => by show ((tab n)[i]?).getD [] = TL i; rw [tab_get n i (by omega)]; rfl) _ (Nat.le_refl _)
theorem tab_eq : ∀ n, tab n = (List.range (n + 1)).map TL := by
  intro n
  apply List.ext_getElem?
  intro i
  by_cases h : i < n + 1
  · rw [tab_get n i (by omega), List.getElem?_map, List.getElem?_range h]; rfl
  · rw [List.getElem?_eq_none (by rw [tab_length]; omega), List.getElem?_eq_none (by simp; omega)]
theorem TL_carets : ∀ n, ∀ T ∈ TL n, T.carets = n
  | 0, T, h => by
    rw [TL_zero, List.mem_singleton] at h
    subst h; rfl
  | n + 1, T, h => by
    rw [TL_succ] at h
    have h := (srtT_perm _).mem_iff.1 h
    unfold raw rawJ at h
    obtain ⟨i, hi, h⟩ := List.mem_flatMap.1 h
    obtain ⟨a, ha, h⟩ := List.mem_flatMap.1 h
    obtain ⟨b, hb, rfl⟩ := List.mem_map.1 h
    have hi := List.mem_range.1 hi
    have h1 := TL_carets i a ha
    have h2 := TL_carets (n + 1 - 1 - i) b hb
    simp only [Tr.carets]
    omega
theorem raw_length_succ (f : Nat → List Tr) (n k : Nat) : (raw f n (k + 1)).length = (raw f n k).length + (f k).length * (f (n - 1 - k)).length := by rw [raw_succ, List.length_append, rawJ_length]
theorem TL_length_succ (n : Nat) : (TL (n + 1)).length = (raw TL (n + 1) (n + 1)).length := by rw [TL_succ]; exact (srtT_perm _).length_eq
theorem TL_lens : (TL 0).length = 1 ∧ (TL 1).length = 1 ∧ (TL 2).length = 2 ∧ (TL 3).length = 5 ∧ (TL 4).length = 14 := by
  have h0 : (TL 0).length = 1 := rfl
  have r0 : ∀ n, (raw TL n 0).length = 0 := fun n => rfl
  have h1 : (TL 1).length = 1 := by rw [TL_length_succ, raw_length_succ, r0, h0]
  have h2 : (TL 2).length = 2 := by rw [TL_length_succ, raw_length_succ, raw_length_succ, r0, h0, h1]
  have h3 : (TL 3).length = 5 := by rw [TL_length_succ, raw_length_succ, raw_length_succ, raw_length_succ, r0, h0, h1, h2]
  have h4 : (TL 4).length = 14 := by rw [TL_length_succ, raw_length_succ, raw_length_succ, raw_length_succ, raw_length_succ, r0, h0, h1, h2, h3]
  exact ⟨h0, h1, h2, h3, h4⟩
theorem TL_le (n : Nat) (h : n ≤ 4) : (TL n).length ≤ 14 := by
  obtain ⟨h0, h1, h2, h3, h4⟩ := TL_lens
  rcases (by omega : n = 0 ∨ n = 1 ∨ n = 2 ∨ n = 3 ∨ n = 4) with rfl | rfl | rfl | rfl | rfl <;> omega
theorem raw_le (n k : Nat) (hn : n ≤ 4) (hk : k ≤ n) : (raw TL n k).length ≤ k * 196 := by
  induction k with
  | zero => simp [raw]
  | succ k ih =>
    rw [raw_length_succ]
    have h1 := TL_le k (by omega)
    have h2 := TL_le (n - 1 - k) (by omega)
    have h3 := Nat.mul_le_mul h1 h2
    have := ih (by omega)
    omega
theorem TL_lens8 : (TL 5).length = 42 ∧ (TL 6).length = 132 ∧ (TL 7).length = 429 ∧ (TL 8).length = 1430 := by
  obtain ⟨h0, h1, h2, h3, h4⟩ := TL_lens
  have r0 : ∀ n, (raw TL n 0).length = 0 := fun n => rfl
  have h5 : (TL 5).length = 42 := by rw [TL_length_succ, raw_length_succ, raw_length_succ, raw_length_succ, raw_length_succ, raw_length_succ, r0, h0, h1, h2, h3, h4]
  have h6 : (TL 6).length = 132 := by rw [TL_length_succ, raw_length_succ, raw_length_succ, raw_length_succ, raw_length_succ, raw_length_succ, raw_length_succ, r0, h0, h1, h2, h3, h4, h5]
  have h7 : (TL 7).length = 429 := by rw [TL_length_succ, raw_length_succ, raw_length_succ, raw_length_succ, raw_length_succ, raw_length_succ, raw_length_succ, raw_length_succ, r0, h0, h1, h2, h3, h4, h5, h6]
  have h8 : (TL 8).length = 1430 := by rw [TL_length_succ, raw_length_succ, raw_length_succ, raw_length_succ, raw_length_succ, raw_length_succ, raw_length_succ, raw_length_succ, raw_length_succ, r0, h0, h1, h2, h3, h4, h5, h6, h7]
  exact ⟨h5, h6, h7, h8⟩
theorem TL_le8 (n : Nat) (h : n ≤ 8) : (TL n).length ≤ 1430 := by
  obtain ⟨h5, h6, h7, h8⟩ := TL_lens8
  by_cases h4 : n ≤ 4
  · have := TL_le n h4; omega
  · rcases (by omega : n = 5 ∨ n = 6 ∨ n = 7 ∨ n = 8) with rfl | rfl | rfl | rfl <;> omega
theorem raw_le8 (n k : Nat) (hn : n ≤ 8) (hk : k ≤ n) : (raw TL n k).length ≤ k * 2044900 := by
  induction k with
  | zero => simp [raw]
  | succ k ih =>
    rw [raw_length_succ]
    have h1 := TL_le8 k (by omega)
    have h2 := TL_le8 (n - 1 - k) (by omega)
    have h3 := Nat.mul_le_mul h1 h2
    have := ih (by omega)
    omega
theorem ins_back (t : ByteArray) (s : List ByteArray) (j : Nat) (hs : Srt s) (hj : j ≤ s.length) (h1 : ∀ i y, j ≤ i → s[i]? = some y → blt t y = true) (h2 : ∀ y, 0 < j → s[j - 1]? = some y → blt t y = false) : s.take j ++ t :: s.drop j = ins t s := by
  refine srt_unique _ _ ?_ ?_ (ins_srt t s hs)
  · refine List.Perm.trans ?_ (ins_perm t s).symm
    refine List.perm_middle.trans ?_
    rw [List.take_append_drop]
  · have hs' : (s.take j ++ s.drop j).Pairwise fun a b => blt b a = false := by rw [List.take_append_drop]; exact hs
    have hp := List.pairwise_append.1 hs'
    unfold Srt
    rw [List.pairwise_append]
    refine ⟨hp.1, List.pairwise_cons.2 ⟨fun y hy => ?_, hp.2.1⟩, fun a ha b hb => ?_⟩
    · obtain ⟨i, hi, rfl⟩ := List.mem_iff_getElem.1 hy
      have hi2 : j + i < s.length := by rw [List.length_drop] at hi; omega
      have h9 : (s.drop j)[i] = s[j + i] := List.getElem_drop ..
      rw [h9]
      have := h1 (j + i) _ (by omega) (List.getElem?_eq_getElem hi2)
      cases hc : blt s[j + i] t with
      | false => rfl
      | true => have h3 := blt_trans this hc; rw [blt_irrefl] at h3; cases h3
    · rcases List.mem_cons.1 hb with rfl | hb
      · have hj0 : 0 < j := by
          rcases Nat.eq_zero_or_pos j with rfl | h
          · rw [List.take_zero] at ha; cases ha
          · exact h
        have hk := List.getElem?_eq_getElem (show j - 1 < s.length by omega)
        have h3 := h2 _ hj0 hk
        obtain ⟨i, hi, rfl⟩ := List.mem_iff_getElem.1 ha
        rw [List.length_take] at hi
        rw [List.getElem_take]
        rcases Nat.lt_or_ge i (j - 1) with h4 | h4
        · have h5 := List.pairwise_iff_getElem.1 hs i (j - 1) (by omega) (by omega) h4
          exact blt_ntrans h3 h5
        · obtain rfl : i = j - 1 := by omega
          exact h3
      · exact hp.2.2 a ha b hb
end Go.Proofs.Ytijnadjgmmednaa.N
namespace Go.Proofs.Ytijnadjgmmednaa.N
theorem rot_back {bk : Bool} {T U : Tr} (h : rot bk T = some U) : rot (!bk) U = some T := by
  cases T with
  | leaf => simp [rot] at h
  | node l r =>
    cases bk
    · cases l with
      | leaf => simp [rot] at h
      | node a b => simp [rot] at h; subst h; rfl
    · cases r with
      | leaf => simp [rot] at h
      | node a b => simp [rot] at h; subst h; rfl
theorem turnT_back {bk : Bool} : ∀ {a : List UInt8} {T U : Tr}, turnT bk a T = some U → turnT (!bk) a U = some T
  | [], T, U, h => rot_back h
  | _ :: _, .leaf, U, h => by simp [turnT] at h
  | c :: l, .node a b, U, h => by
    simp only [turnT] at h
    split at h
    · rename_i hc
      obtain ⟨x, hx, rfl⟩ := Option.map_eq_some_iff.1 h
      simp only [turnT, if_pos hc, turnT_back hx, Option.map_some]
    · rename_i hc
      split at h
      · rename_i hd
        obtain ⟨x, hx, rfl⟩ := Option.map_eq_some_iff.1 h
        simp only [turnT, if_neg hc, if_pos hd, turnT_back hx, Option.map_some]
      · cases h
theorem turnT_place {bk : Bool} : ∀ {a : List UInt8} {T U : Tr}, turnT bk a T = some U → a ∈ T.places []
  | [], .leaf, U, h => by simp [turnT, rot] at h
  | [], .node l r, U, h => by simp [Tr.places]
  | _ :: _, .leaf, U, h => by simp [turnT] at h
  | c :: l, .node a b, U, h => by
    have h1 : a.places [48] = (a.places []).map (48 :: ·) := by have := places_map a [48] []; simpa using this
    have h2 : b.places [49] = (b.places []).map (49 :: ·) := by have := places_map b [49] []; simpa using this
    simp only [Tr.places, List.nil_append, h1, h2]
    simp only [turnT] at h
    split at h
    · rename_i hc
      obtain ⟨x, hx, rfl⟩ := Option.map_eq_some_iff.1 h
      subst hc
      have := turnT_place hx
      simp [this]
    · split at h
      · rename_i hd
        obtain ⟨x, hx, rfl⟩ := Option.map_eq_some_iff.1 h
        subst hd
        have := turnT_place hx
        simp [this]
      · cases h
theorem mem_turns {bk : Bool} {a : List UInt8} {T U : Tr} (h : turnT bk a T = some U) : a ∈ T.turns bk := List.mem_filter.2 ⟨turnT_place h, by rw [h]; rfl⟩
theorem mem_moves {bk : Bool} {T U : Tr} : U ∈ moves bk T ↔ ∃ a, turnT bk a T = some U :=
  ⟨fun h => let ⟨a, _, h⟩ := List.mem_filterMap.1 h; ⟨a, h⟩, fun ⟨a, h⟩ => List.mem_filterMap.2 ⟨a, mem_turns h, h⟩⟩
theorem mem_near {T U : Tr} : U ∈ near0 T ↔ ∃ bk a, turnT bk a T = some U := by
  unfold near0
  rw [List.mem_append, mem_moves, mem_moves]
  constructor
  · rintro (⟨a, h⟩ | ⟨a, h⟩)
    · exact ⟨_, a, h⟩
    · exact ⟨_, a, h⟩
  · rintro ⟨bk, a, h⟩
    cases bk
    · exact .inl ⟨a, h⟩
    · exact .inr ⟨a, h⟩
theorem near_symm {T U : Tr} (h : U ∈ near0 T) : T ∈ near0 U := by
  obtain ⟨bk, a, h⟩ := mem_near.1 h
  exact mem_near.2 ⟨!bk, a, turnT_back h⟩
theorem moves_node (bk : Bool) (l r : Tr) : moves bk (.node l r) = (rot bk (.node l r)).toList ++ ((moves bk l).map (fun x => .node x r) ++ (moves bk r).map (fun x => .node l x)) := by
  unfold moves
  rw [turns_node, List.filterMap_append, List.filterMap_append, List.filterMap_map, List.filterMap_map]
  congr 1
  · cases h : rot bk (.node l r) with
    | none => rfl
    | some U => simp [turnT, h]
  · congr 1
    · rw [List.map_filterMap]
      congr 1
      try (funext a; simp [turnT, Function.comp])
    · rw [List.map_filterMap]
      congr 1
      try (funext a; simp [turnT, Function.comp])
theorem rot_count (l r : Tr) : (rot false (.node l r)).toList.length = (if l.carets = 0 then 0 else 1) ∧ (rot true (.node l r)).toList.length = (if r.carets = 0 then 0 else 1) := by
  constructor
  · cases l with
    | leaf => rfl
    | node a b => rw [if_neg (by simp only [Tr.carets]; omega)]; rfl
  · cases r with
    | leaf => rfl
    | node a b => rw [if_neg (by simp only [Tr.carets]; omega)]; rfl
theorem near_count : ∀ T : Tr, (near0 T).length = T.carets - 1
  | .leaf => rfl
  | .node l r => by
    have hl := near_count l
    have hr := near_count r
    unfold near0 at *
    rw [moves_node, moves_node]
    simp only [List.length_append, List.length_map, (rot_count l r).1, (rot_count l r).2] at *
    simp only [Tr.carets]
    split <;> split <;> omega
theorem nearS_length (T : Tr) : (nearS T).length = T.carets - 1 := by unfold nearS; rw [srt_length, List.length_map, near_count]
theorem nearS_mem {T : Tr} {s : ByteArray} : s ∈ nearS T ↔ ∃ U, U ∈ near0 T ∧ tx U = s := by
  unfold nearS
  rw [(srt_perm _).mem_iff, List.mem_map]
theorem turns_comb : ∀ T : Tr, T.turns false = [] → T = comb T.carets
  | .leaf, _ => rfl
  | .node l r, h => by
    rw [turns_node] at h
    have h := List.append_eq_nil_iff.1 h
    have h2 := List.append_eq_nil_iff.1 h.2
    cases l with
    | node a b => simp [rot] at h
    | leaf =>
      have hr := turns_comb r (List.map_eq_nil_iff.1 h2.2)
      rw [show (Tr.node .leaf r).carets = r.carets + 1 from by simp only [Tr.carets]; omega]
      show _ = Tr.node .leaf (comb r.carets)
      rw [← hr]
theorem chain_ind {P : Tr → List Tr → Prop} (h0 : ∀ T, T.turns false = [] → P T [T]) (h1 : ∀ T T' , T' ∈ near0 T → T'.carets = T.carets → P T' T'.chain → P T (T :: T'.chain)) : ∀ (n : Nat) (T : Tr), T.phi ≤ n → P T T.chain := by
  intro n
  induction n with
  | zero =>
    intro T hn
    cases ht : T.turns false with
    | nil => rw [chain_none ht]; exact h0 T ht
    | cons a l =>
      obtain ⟨T', h2, h3⟩ := step_cons ht
      have := (step_phi h3).1; omega
  | succ n ih =>
    intro T hn
    cases ht : T.turns false with
    | nil => rw [chain_none ht]; exact h0 T ht
    | cons a l =>
      obtain ⟨T', h2, h3⟩ := step_cons ht
      have h4 := step_phi h3
      rw [chain_step h3]
      exact h1 T T' (mem_near.2 ⟨_, a, h2⟩) h4.2 (ih T' (by omega))
end Go.Proofs.Ytijnadjgmmednaa.N
namespace Go.Proofs.Ytijnadjgmmednaa.N
def Way : Nat → Tr → Tr → Prop
  | 0, T, U => U = T
  | k + 1, T, U => ∃ M, Way k T M ∧ U ∈ near0 M
theorem near_carets {T U : Tr} (h : U ∈ near0 T) : U.carets = T.carets := by
  obtain ⟨bk, a, h⟩ := mem_near.1 h
  exact turnT_carets h
theorem Way.one {T U : Tr} (h : U ∈ near0 T) : Way 1 T U := ⟨T, rfl, h⟩
theorem Way.trans {j : Nat} {T M : Tr} (h : Way j T M) : ∀ {k : Nat} {U : Tr}, Way k M U → Way (j + k) T U
  | 0, U, e => by cases (show U = M from e); exact h
  | k + 1, U, ⟨V, h1, h2⟩ => ⟨V, h.trans h1, h2⟩
theorem Way.symm : ∀ {k : Nat} {T U : Tr}, Way k T U → Way k U T
  | 0, T, U, e => (show U = T from e).symm
  | k + 1, T, U, ⟨M, h1, h2⟩ => by
    have := (Way.one (near_symm h2)).trans h1.symm
    rwa [Nat.add_comm] at this
theorem Way.carets : ∀ {k : Nat} {T U : Tr}, Way k T U → U.carets = T.carets
  | 0, T, U, e => by cases (show U = T from e); rfl
  | k + 1, T, U, ⟨M, h1, h2⟩ => (near_carets h2).trans h1.carets
theorem way_comb (T : Tr) : ∃ k, Way k T (comb T.carets) :=
  chain_ind (P := fun T _ => ∃ k, Way k T (comb T.carets)) (fun T h => ⟨0, (turns_comb T h).symm⟩)
    (fun T T' hn hc ⟨k, hk⟩ => ⟨1 + k, (Way.one hn).trans (hc ▸ hk)⟩) T.phi T (Nat.le_refl _)
theorem way_all {T U : Tr} (h : U.carets = T.carets) : ∃ k, Way k T U := by
  obtain ⟨j, hj⟩ := way_comb T
  obtain ⟨k, hk⟩ := way_comb U
  rw [h] at hk
  exact ⟨j + k, hj.trans hk.symm⟩
def Dist (T U : Tr) (k : Nat) : Prop := Way k T U ∧ ∀ j, Way j T U → k ≤ j
theorem Dist.uniq {T U : Tr} {j k : Nat} (h : Dist T U j) (h' : Dist T U k) : j = k := Nat.le_antisymm (h.2 _ h'.1) (h'.2 _ h.1)
theorem dist_least {T U : Tr} : ∀ (n k : Nat), k ≤ n → Way k T U → ∃ j, j ≤ k ∧ Dist T U j
  | 0, k, hk, h => ⟨k, Nat.le_refl _, h, fun j _ => by omega⟩
  | n + 1, k, hk, h => by
    by_cases hl : ∃ j, j < k ∧ Way j T U
    · obtain ⟨j, hj, hw⟩ := hl
      obtain ⟨i, hi, hd⟩ := dist_least n j (by omega) hw
      exact ⟨i, by omega, hd⟩
    · exact ⟨k, Nat.le_refl _, h, fun j hw => Nat.le_of_not_lt fun hj => hl ⟨j, hj, hw⟩⟩
theorem Way.dist {T U : Tr} {k : Nat} (h : Way k T U) : ∃ j, j ≤ k ∧ Dist T U j := dist_least k k (Nat.le_refl _) h
theorem Dist.symm {T U : Tr} {k : Nat} (h : Dist T U k) : Dist U T k := ⟨h.1.symm, fun j hj => h.2 j hj.symm⟩
theorem Dist.pred {T U : Tr} {k : Nat} (h : Dist T U (k + 1)) : ∃ M, Dist T M k ∧ U ∈ near0 M := by
  obtain ⟨⟨M, h1, h2⟩, hl⟩ := h
  exact ⟨M, ⟨h1, fun j hj => by have := hl (j + 1) ⟨M, hj, h2⟩; omega⟩, h2⟩
theorem Dist.near {T M U : Tr} {k : Nat} (h : Dist T M k) (hn : U ∈ near0 M) : ∃ j, j ≤ k + 1 ∧ Dist T U j := Way.dist ⟨M, h.1, hn⟩
theorem dist_self (T : Tr) : Dist T T 0 := ⟨rfl, fun _ _ => Nat.zero_le _⟩
structure BF (T : Tr) (K : List Tr) (p : Nat) (g : Tr → Nat) : Prop where
  right : ∀ U, U ∈ K → Dist T U (g U)
  start : T ∈ K
  nodup : K.Nodup
  ord : ∃ d q, p ≤ q ∧ (∀ i, ∀ h : i < K.length, p ≤ i → i < q → g K[i] = d) ∧ (∀ i, ∀ h : i < K.length, q ≤ i → g K[i] = d + 1) ∧ (∀ U j, j ≤ d → Dist T U j → U ∈ K)
  closed : ∀ i, ∀ h : i < K.length, i < p → ∀ V ∈ near0 K[i], V ∈ K
structure BG (T : Tr) (K : List Tr) (p : Nat) (g : Tr → Nat) (L : List Tr) (H : Tr) (d : Nat) : Prop where
  right : ∀ U, U ∈ K → Dist T U (g U)
  start : T ∈ K
  nodup : K.Nodup
  head : K[p]? = some H
  told : g H = d
  ord : ∃ q, p < q ∧ (∀ i, ∀ h : i < K.length, p ≤ i → i < q → g K[i] = d) ∧ (∀ i, ∀ h : i < K.length, q ≤ i → g K[i] = d + 1) ∧ (∀ U j, j ≤ d → Dist T U j → U ∈ K)
  closed : ∀ i, ∀ h : i < K.length, i < p → ∀ V ∈ near0 K[i], V ∈ K
  done : ∀ V ∈ L, V ∈ K
theorem BF.first (T : Tr) (g : Tr → Nat) (hg : g T = 0) : BF T [T] 0 g where
  right := fun U h => by cases List.mem_singleton.1 h; rw [hg]; exact dist_self _
  start := List.mem_singleton.2 rfl
  nodup := by simp
  ord := ⟨0, 1, by omega, fun i h _ _ => by
      have : i = 0 := by simp at h; exact h
      subst this; exact hg, fun i h hi => by simp at h; omega, fun U j hj hd => by
      have : j = 0 := by omega
      subst this
      exact List.mem_singleton.2 (show U = T from hd.1)⟩
  closed := fun i _ h => by omega
theorem BF.open_ {T : Tr} {K : List Tr} {p : Nat} {g : Tr → Nat} (h : BF T K p g) (hp : p < K.length) : BG T K p g [] K[p] (g K[p]) := by
  obtain ⟨d, q, h1, h2, h3, h4⟩ := h.ord
  refine ⟨h.right, h.start, h.nodup, List.getElem?_eq_getElem hp, rfl, ?_, h.closed, fun V hV => by cases hV⟩
  by_cases hq : p < q
  · have e := h2 p hp (Nat.le_refl _) hq
    rw [e]
    exact ⟨q, hq, h2, h3, h4⟩
  · have e := h3 p hp (by omega)
    rw [e]
    refine ⟨K.length, hp, fun i hi h5 _ => h3 i hi (by omega), fun i hi h5 => by omega, fun U j hj hd => ?_⟩
    by_cases hjd : j ≤ d
    · exact h4 U j hjd hd
    · have : j = d + 1 := by omega
      subst this
      obtain ⟨M, hM, hn⟩ := hd.pred
      have hMK := h4 M d (Nat.le_refl _) hM
      obtain ⟨i, hi, ei⟩ := List.getElem_of_mem hMK
      subst ei
      have hgi : g K[i] = d := (h.right _ hMK).uniq hM
      exact h.closed i hi (Nat.lt_of_not_le fun hpi => by have := h3 i hi (by omega); omega) U hn
theorem BG.old {T : Tr} {K : List Tr} {p d : Nat} {g : Tr → Nat} {L : List Tr} {H : Tr} (h : BG T K p g L H d) {V : Tr} (hV : V ∈ K) : BG T K p g (L ++ [V]) H d :=
  ⟨h.right, h.start, h.nodup, h.head, h.told, h.ord, h.closed, fun U hU => by
    rcases List.mem_append.1 hU with hU | hU
    · exact h.done U hU
    · cases List.mem_singleton.1 hU; exact hV⟩
theorem BG.new {T : Tr} {K : List Tr} {p d : Nat} {g g' : Tr → Nat} {L : List Tr} {H : Tr} (h : BG T K p g L H d) {V : Tr} (hV : ¬ V ∈ K) (hn : V ∈ near0 H) (hg : ∀ U, U ∈ K → g' U = g U) (hgV : g' V = d + 1) :
    BG T (K ++ [V]) p g' (L ++ [V]) H d := by
  have hp : p < K.length := (List.getElem?_eq_some_iff.1 h.head).1
  have hH : K[p] = H := (List.getElem?_eq_some_iff.1 h.head).2
  have hHK : H ∈ K := hH ▸ List.getElem_mem hp
  obtain ⟨q, h1, h2, h3, h4⟩ := h.ord
  have hdV : Dist T V (d + 1) := by
    obtain ⟨j, hj, hd⟩ := Dist.near (h.told ▸ h.right H hHK) hn
    by_cases hjd : j ≤ d
    · exact absurd (h4 V j hjd hd) hV
    · have : j = d + 1 := by omega
      exact this ▸ hd
  have sub : ∀ U, U ∈ K → U ∈ K ++ [V] := fun U hU => List.mem_append_left _ hU
  have hat : ∀ i, ∀ hi : i < (K ++ [V]).length, (∃ hK : i < K.length, (K ++ [V])[i] = K[i]) ∨ (i = K.length ∧ (K ++ [V])[i] = V) := fun i hi => by
    by_cases hK : i < K.length
    · exact .inl ⟨hK, List.getElem_append_left hK⟩
    · have : i = K.length := by simp at hi; omega
      subst this
      exact .inr ⟨rfl, by simp⟩
  refine ⟨fun U hU => ?_, sub _ h.start, ?_, ?_, (hg H hHK).trans h.told, ⟨min q K.length, by omega, fun i hi hpi hiq => ?_, fun i hi hiq => ?_, fun U j hj hd => sub _ (h4 U j hj hd)⟩, fun i hi hip W hW => ?_, fun U hU => ?_⟩
  · rcases List.mem_append.1 hU with hU | hU
    · rw [hg U hU]; exact h.right U hU
    · cases List.mem_singleton.1 hU; rw [hgV]; exact hdV
  · exact List.nodup_append.2 ⟨h.nodup, by simp, fun x hx y hy e => hV (by cases List.mem_singleton.1 hy; exact e ▸ hx)⟩
  · rw [List.getElem?_append_left hp]; exact h.head
  · rcases hat i hi with ⟨hK, e⟩ | ⟨e, _⟩
    · rw [e, hg _ (List.getElem_mem hK)]; exact h2 i hK hpi (by omega)
    · omega
  · rcases hat i hi with ⟨hK, e⟩ | ⟨_, e⟩
    · rw [e, hg _ (List.getElem_mem hK)]; exact h3 i hK (by omega)
    · rw [e, hgV]
  · rcases hat i hi with ⟨hK, e⟩ | ⟨e, _⟩
    · rw [e] at hW; exact sub _ (h.closed i hK hip W hW)
    · omega
  · rcases List.mem_append.1 hU with hU | hU
    · exact sub _ (h.done U hU)
    · exact List.mem_append_right _ hU
theorem BG.shut {T : Tr} {K : List Tr} {p d : Nat} {g : Tr → Nat} {L : List Tr} {H : Tr} (h : BG T K p g L H d) (hL : ∀ V ∈ near0 H, V ∈ L) : BF T K (p + 1) g := by
  have hp : p < K.length := (List.getElem?_eq_some_iff.1 h.head).1
  have hH : K[p] = H := (List.getElem?_eq_some_iff.1 h.head).2
  obtain ⟨q, h1, h2, h3, h4⟩ := h.ord
  refine ⟨h.right, h.start, h.nodup, ⟨d, q, by omega, fun i hi hpi hiq => h2 i hi (by omega) hiq, h3, h4⟩, fun i hi hip V hV => ?_⟩
  by_cases e : i = p
  · subst e
    rw [hH] at hV
    exact h.done V (hL V hV)
  · exact h.closed i hi (by omega) V hV
theorem BF.all {T : Tr} {K : List Tr} {p : Nat} {g : Tr → Nat} (h : BF T K p g) (hp : K.length ≤ p) : ∀ {k : Nat} {U : Tr}, Way k T U → U ∈ K
  | 0, U, e => by cases (show U = T from e); exact h.start
  | k + 1, U, ⟨M, h1, h2⟩ => by
    obtain ⟨i, hi, e⟩ := List.getElem_of_mem (h.all hp h1)
    subst e
    exact h.closed i hi (by omega) U h2
theorem BF.carets {T : Tr} {K : List Tr} {p : Nat} {g : Tr → Nat} (h : BF T K p g) {U : Tr} (hU : U ∈ K) : U.carets = T.carets := (h.right U hU).1.carets
theorem BG.carets {T : Tr} {K : List Tr} {p d : Nat} {g : Tr → Nat} {L : List Tr} {H : Tr} (h : BG T K p g L H d) {U : Tr} (hU : U ∈ K) : U.carets = T.carets := (h.right U hU).1.carets
theorem BF.found {T U : Tr} {K : List Tr} {p : Nat} {g : Tr → Nat} (h : BF T K p g) (hp : K.length ≤ p) (hc : U.carets = T.carets) : U ∈ K ∧ Dist T U (g U) := by
  obtain ⟨k, hk⟩ := way_all hc
  exact ⟨h.all hp hk, h.right U (h.all hp hk)⟩
structure LV (T : Tr) (r : Nat) (R S : List Tr) : Prop where
  all : ∀ U, U ∈ R ↔ ∃ j, j ≤ r ∧ Way j T U
  last : ∀ U, U ∈ S ↔ Dist T U r
theorem LV.first (T : Tr) : LV T 0 [T] [T] where
  all := fun U => ⟨fun h => ⟨0, Nat.le_refl _, List.mem_singleton.1 h⟩, fun ⟨j, hj, h⟩ => by
    have : j = 0 := by omega
    subst this; exact List.mem_singleton.2 h⟩
  last := fun U => ⟨fun h => by cases List.mem_singleton.1 h; exact dist_self _, fun h => List.mem_singleton.2 (show U = T from h.1)⟩
theorem LV.empty {T : Tr} {r : Nat} {R S : List Tr} (h : LV T r R S) (hS : S = []) {U : Tr} {k : Nat} (hd : Dist T U k) : k < r := by
  apply Nat.lt_of_not_le
  intro hk
  have go : ∀ (n : Nat) (V : Tr), Dist T V (r + n) → False := by
    intro n
    induction n with
    | zero => intro V hV; have := (h.last V).2 hV; rw [hS] at this; cases this
    | succ n ih => intro V hV; obtain ⟨M, hM, _⟩ := Dist.pred (k := r + n) hV; exact ih M hM
  exact go (k - r) U (by rw [Nat.add_sub_cancel' hk]; exact hd)
theorem way_comb' (T : Tr) : Way (T.chain.length - 1) T (comb T.carets) ∧ 0 < T.chain.length :=
  chain_ind (P := fun T l => Way (l.length - 1) T (comb T.carets) ∧ 0 < l.length) (fun T h => ⟨(turns_comb T h).symm, by simp⟩)
    (fun T T' hn hc ⟨hk, hp⟩ => ⟨by
      have := (Way.one hn).trans hk
      rw [hc] at this
      rw [List.length_cons]
      rwa [show 1 + (T'.chain.length - 1) = T'.chain.length + 1 - 1 by omega] at this, by simp⟩) T.phi T (Nat.le_refl _)
theorem dist_bound {T U : Tr} {k : Nat} (h : Dist T U k) : k ≤ 2 * (T.carets * T.carets) := by
  have h1 := (way_comb' T).1
  have h2 := (way_comb' U).1
  rw [h.1.carets] at h2
  have h3 := h.2 _ (h1.trans h2.symm)
  have h4 := chain_length T
  have h5 := chain_length U
  rw [h.1.carets] at h5
  omega
theorem nodup_len {α : Type} : ∀ {K L : List α}, K.Nodup → (∀ x ∈ K, x ∈ L) → K.length ≤ L.length
  | [], L, _, _ => Nat.zero_le _
  | a :: K, L, hn, hs => by
    obtain ⟨h1, h2⟩ := List.nodup_cons.1 hn
    obtain ⟨s, t, rfl⟩ := List.append_of_mem (hs a List.mem_cons_self)
    have := nodup_len (K := K) (L := s ++ t) h2 (fun x hx => by
      have := hs x (List.mem_cons_of_mem _ hx)
      rcases List.mem_append.1 this with h | h
      · exact List.mem_append_left _ h
      · rcases List.mem_cons.1 h with h | h
        · exact absurd (h ▸ hx) h1
        · exact List.mem_append_right _ h)
    simp only [List.length_append, List.length_cons] at this ⊢
    omega
def allT : Nat → List Tr
  | 0 => [.leaf]
  | d + 1 => .leaf :: (allT d).flatMap fun l => (allT d).map fun r => .node l r
theorem allT_mem : ∀ (d : Nat) (T : Tr), T.depth ≤ d → T ∈ allT d
  | 0, .leaf, _ => List.mem_singleton.2 rfl
  | 0, .node l r, h => by simp [Tr.depth] at h
  | d + 1, .leaf, _ => List.mem_cons_self
  | d + 1, .node l r, h => by
    simp only [Tr.depth] at h
    refine List.mem_cons_of_mem _ (List.mem_flatMap.2 ⟨l, allT_mem d l (by omega), List.mem_map.2 ⟨r, allT_mem d r (by omega), rfl⟩⟩)
theorem allT_length (d : Nat) : (allT (d + 1)).length = 1 + (allT d).length * (allT d).length := by
  simp only [allT, List.length_cons]
  have : ∀ (L M : List Tr), (L.flatMap fun l => M.map fun r => Tr.node l r).length = L.length * M.length := by
    intro L M
    induction L with
    | nil => simp
    | cons a L ih => rw [List.flatMap_cons, List.length_append, ih, List.length_map, List.length_cons, Nat.add_mul, Nat.one_mul, Nat.add_comm]
  rw [this]; omega
theorem few {K : List Tr} (hn : K.Nodup) (h5 : ∀ U ∈ K, U.carets ≤ 5) : K.length ≤ 458330 := by
  have h := nodup_len (L := allT 5) hn (fun U hU => allT_mem 5 U (by have := U.depth_le; have := h5 U hU; omega))
  have e : (allT 5).length = 458330 := by
    rw [allT_length, allT_length, allT_length, allT_length, allT_length]
    rfl
  omega
end Go.Proofs.Ytijnadjgmmednaa.N
namespace Go.Proofs.Ytijnadjgmmednaa.N
open Go.RowKit
theorem infoNode : (Try.prog.info? 80).map (fun i => (i.zero, i.size, i.bytes)) = some (some (.pointer none), 1, 8) := by kernel_rfl
set_option maxHeartbeats 3200000 in
theorem textsOf_calls (Ts : List Tr) (ps : List (Option Addr)) (v : Value) (w : World) (hn : Ts.length < 1000000) (hc : ∀ T ∈ Ts, T.carets < 1000000) (hv : Reads w v (ptrs ps)) (hr : Reps w Ts ps) :
    Calls Try.prog 98 #[v] w fun e w' => ∃ v, e = .returned v ∧ Own w' w.heap.size 9 v (strs (Ts.map tx)) ∧ Ext w w' := by
  obtain ⟨A, c, rfl, _, rd⟩ := hv
  rw [ptrs_length, ← hr.1] at rd ⊢
  have RD := Lib.hid rd
  have HR := Lib.hid hr
  have HC := Lib.hid hc
  clear rd hr hc
  go_enter Try.func98, Try.ntmps98
  go_wp2_with fail
  go_loopw [3, 8] (fun v i wr => ∃ k : Nat, k ≤ Ts.length ∧ i = .int .i64 k ∧ Own wr w.heap.size 9 v (strs ((Ts.take k).map tx)) ∧ Ext w wr) (fun _ i _ => Ts.length - (intOf i).toNat)
  case atStart => exact ⟨0, Nat.zero_le _, rfl, Own.nil _ _ _, Ext.refl _⟩
  case round =>
    obtain ⟨k, hk, rfl, ho, hx⟩ := hrel
    have HO := Lib.hid ho
    have HX := Lib.hid hx
    clear ho hx
    by_cases hlt : k < Ts.length
    · obtain ⟨ad, rfl, ca⟩ := RD.out (by omega)
      have hlt2 : k < ps.length := by rw [← HR.out.1]; exact hlt
      have c1 := HX.out.cell (ca k _ (ptrs_get ps k hlt2))
      have h0 : (0 : Int) ≤ k := by omega
      have h1 : (k : Int) < Ts.length := by omega
      have CT := Lib.hid (text_calls Ts[k] ps[k] wr (by have := HC.out Ts[k] (List.getElem_mem hlt); omega) ((HR.out.2 k _ _ (List.getElem?_eq_getElem hlt) (List.getElem?_eq_getElem hlt2)).ext HX.out))
      have ET : Hid ((Ts.take (k + 1)).map tx = (Ts.take k).map tx ++ [tx Ts[k]]) := by show _ = _; rw [List.take_add_one, List.getElem?_eq_getElem hlt, List.map_append]; rfl
      have LT : Hid (((strs ((Ts.take k).map tx)).length + (strs [tx Ts[k]]).length) * 16 ≤ 140737488355328) := by
        show _ ≤ _; rw [strs_length, strs_length, List.length_map, List.length_take]; show (_ + 1) * 16 ≤ _; omega
      clear ca
      generalize ps[k] = q at *
      generalize Ts[k] = T at *
      go_wp2_with fail
      refine CT.out.mono ?_
      rintro e w2 ⟨rfl, n, rfl⟩
      have O2 := (HO.out.ext ((Ext.refl _).drewN n)).ext ((Ext.refl _).alloc (.cells #[.string (tx T)] 9))
      have X2 := Lib.hid (HX.out.drewN n)
      have R1 := Lib.hid (Own.lit (wr.drewN n) 0 9 #[.string (tx T)] (Nat.zero_le _) (by show 1 ≤ maxLen; decide)).reads
      have B1 := Lib.hid (X2.out.alloc (.cells #[.string (tx T)] 9)).size
      go_wp2_with (at_builtin; refine wpList_app rfl (.tmp 12) (.tmp 15) 56 rfl w.heap.size 9 (.string ⟨#[]⟩) 16 Try.underlying56 infoStr rfl (by omega) _ _ _ (strs [tx T]) rfl rfl O2 R1.out (strs_one _) LT.out B1.out ?_; intro v3 w3 o3 g3 _)
      have O3 := Lib.hid o3
      have X3 := Lib.hid ((X2.out.alloc _).grown g3 O2.lo)
      clear o3 g3
      go_wp2_with fail
      exact ⟨⟨k + 1, by omega, by go_num, by rw [ET.out]; have := O3.out; simpa [strs] using this, X3.out⟩, by simp [intOf]; omega⟩
    · have h1 : (Ts.length : Int) ≤ k := by omega
      have E : Hid (Ts.take k = Ts) := List.take_of_length_le (by omega)
      go_wp2_with fail
      go_ret
      refine ⟨_, rfl, ?_, HX.out⟩
      have := HO.out
      rw [E.out] at this
      exact this
set_option maxHeartbeats 3200000 in
set_option maxRecDepth 100000 in
theorem chain_calls (T : Tr) (hT : T.carets ≤ 900) (p : Option Addr) (w : World) (hr : Rep w T p) :
    Calls Try.prog 96 #[.pointer p] w fun e w' => ∃ v ps, e = .returned v ∧ Own w' w.heap.size 80 v (ptrs ps) ∧ Reps w' T.chain ps ∧ Ext w w' := by
  have HR := Lib.hid (And.intro hr hT)
  have CL : Hid (T.chain.length < 1000000) := by
    show _ < _; have := chain_length T; have : T.carets * T.carets ≤ 900 * 900 := Nat.mul_le_mul hT hT; omega
  clear hr hT
  go_enter Try.func96, Try.ntmps96
  go_wp2_with fail
  have O0 := Lib.hid (Own.lit w w.heap.size 80 #[.pointer p] (Nat.le_refl _) (by show 1 ≤ maxLen; decide))
  have X0 := Lib.hid ((Ext.refl w).alloc (.cells #[.pointer p] 80))
  refine (turns_calls false T (by have := HR.out.2; omega) p _ (HR.out.1.ext X0.out)).mono ?_
  rintro e w1 ⟨v1, rfl, o1, x1⟩
  obtain ⟨A1, n1, c1, rfl⟩ : ∃ A n c, v1 = .slice A n c := by obtain ⟨A, c, e, _⟩ := o1.reads; exact ⟨A, _, c, e⟩
  have O1 := Lib.hid o1
  have X1 := Lib.hid (X0.out.trans x1)
  have OX := Lib.hid (O0.out.ext x1)
  clear o1 x1
  go_wp2_with fail
  go_loopg [0, 3, 4] T.phi (fun f t o l wr => ∃ (U : Tr) (q : Option Addr) (pre : List Tr) (ps : List (Option Addr)) (A : Option Addr) (n c b : Nat), t = .pointer q ∧ l = .slice A n c ∧ Hid (U.phi = f) ∧ Hid (U.carets ≤ 900) ∧ Hid (Rep wr U q) ∧ Hid (pre ++ U.chain = T.chain) ∧
      Hid (Own wr w.heap.size 80 o (ptrs ps)) ∧ Hid (Reps wr (pre ++ [U]) ps) ∧ Hid (Own wr b 9 (.slice A n c) (sls (U.turns false))) ∧ Hid (Ext w wr))
  case atStart =>
    refine ⟨T, p, [], [p], A1, n1, c1, _, rfl, rfl, rfl, HR.out.2, HR.out.1.ext X1.out, rfl, OX.out, ?_, O1.out, X1.out⟩
    exact (Reps.nil _).snoc (HR.out.1.ext X1.out)
  case round =>
    obtain ⟨U, q, pre, ps, A, n, c, b, rfl, rfl, H1, H2, H3, H4, H5, H6, H7, H8⟩ := hrel
    cases ht : U.turns false with
    | nil =>
      have h7 := H7.out
      rw [ht] at h7
      obtain ⟨_, _, e1, _⟩ := h7.reads
      injection e1 with _ e2 _
      obtain rfl : n = 0 := e2
      have EC : Hid (pre ++ [U] = T.chain) := by show _ = _; rw [← H4.out, chain_none ht]
      clear h7 ht
      go_wp2_with fail
      go_ret
      exact ⟨_, ps, rfl, H5.out, EC.out ▸ H6.out, H8.out⟩
    | cons a l =>
      have h7 := H7.out
      rw [ht] at h7
      obtain ⟨_, _, e1, _, rd⟩ := h7.reads
      injection e1 with e0 e2 e3
      subst e0
      obtain ⟨ad, hA, ca⟩ := rd (by simp [sls])
      subst hA
      have c0 : wr.cell? ad = some (.string (S a)) := ca 0 _ rfl
      have hn : (0 : Int) < n := by rw [e2]; simp [sls]
      have hn' : 0 < n := by omega
      obtain ⟨V, hV, hs⟩ := step_cons ht
      have C := turn_calls false a U (S a) q wr rfl H3.out
      rw [hV] at C
      have C := Lib.hid C
      have PH := Lib.hid (step_phi hs)
      have EC : Hid ((pre ++ [U]) ++ V.chain = T.chain) := by show _ = _; rw [← H4.out, chain_step hs]; simp
      have LP : Hid (ps.length < 1000000) := by
        show _ < _
        have h1 := H6.out.1
        have h2 := congrArg List.length EC.out
        have h3 := CL.out
        simp at h1 h2; omega
      clear h7 e2 e3 rd ca ht hV hs
      go_wp2_with fail
      refine C.out.mono ?_
      rintro e w2 ⟨x2, p2, rfl, r2⟩
      have R2 := Lib.hid r2
      have X2 := Lib.hid (H8.out.trans x2)
      have O2 := (H5.out.ext x2).ext ((Ext.refl _).alloc (.cells #[.pointer p2] 80))
      have RS2 := Lib.hid (((H6.out.ext x2).snoc r2).ext ((Ext.refl _).alloc (.cells #[.pointer p2] 80)))
      clear x2 r2
      have RL := Lib.hid (Own.lit w2 0 80 #[.pointer p2] (Nat.zero_le _) (by show 1 ≤ maxLen; decide)).reads
      have LT : Hid (((ptrs ps).length + (ptrs [p2]).length) * 8 ≤ 140737488355328) := by show _ ≤ _; rw [ptrs_length]; have := LP.out; show (_ + 1) * 8 ≤ _; omega
      have B1 := Lib.hid (X2.out.alloc (.cells #[.pointer p2] 80)).size
      go_wp2_with (at_builtin; refine wpList_app rfl (.tmp 22) (.tmp 24) 121 rfl w.heap.size 80 (.pointer none) 8 Try.underlying121 infoNode rfl (by omega) _ _ _ (ptrs [p2]) rfl rfl O2 RL.out (ptrs_one _) LT.out B1.out ?_; intro v3 w3 o3 g3 _)
      have R3 := Lib.hid ((R2.out.ext ((Ext.refl _).alloc (.cells #[.pointer p2] 80))).row O2 (by decide) g3)
      have RS3 := Lib.hid (RS2.out.row O2 (by decide) g3)
      have X3 := Lib.hid ((X2.out.alloc _).grown g3 O2.lo)
      rw [ptrs_append] at o3
      have O3 := Lib.hid o3
      clear o3 g3 O2
      go_wp2_with fail
      refine (turns_calls false V (by have := HR.out.2; have := PH.out.2; have := H2.out; omega) p2 _ R3.out).mono ?_
      rintro e w4 ⟨v4, rfl, o4, x4⟩
      obtain ⟨A4, n4, c4, rfl⟩ : ∃ A n c, v4 = .slice A n c := by obtain ⟨A, c, e, _⟩ := o4.reads; exact ⟨A, _, c, e⟩
      have O4 := Lib.hid o4
      have X4 := Lib.hid x4
      clear o4 x4
      go_wp2_with fail
      go_roundg V.phi
      case measure => have := H1.out; have := PH.out.1; omega
      case rel => exact ⟨V, p2, pre ++ [U], ps ++ [p2], A4, n4, c4, _, rfl, rfl, rfl, by show _ ≤ _; have := PH.out.2; have := H2.out; omega, R3.out.ext X4.out, EC.out, O3.out.ext X4.out, RS3.out.ext X4.out, O4.out, X3.out.trans X4.out⟩
set_option maxHeartbeats 3200000 in
set_option maxRecDepth 100000 in
theorem brChain_calls (T : Tr) (hT : T.carets ≤ 50) (w : World) :
    Calls Try.prog 100 #[.string (tx T)] w fun e w' => ∃ v, e = .returned v ∧ Own w' w.heap.size 9 v (strs (T.chain.map tx)) ∧ Ext w w' := by
  have HT := Lib.hid hT
  have CL : Hid (T.chain.length < 1000000) := by
    show _ < _; have := chain_length T; have : T.carets * T.carets ≤ 50 * 50 := Nat.mul_le_mul hT hT; omega
  clear hT
  go_enter Try.func100, Try.ntmps100
  go_wp2_with fail
  have O0 := Lib.hid (Own.lit w w.heap.size 9 #[.string (tx T)] (Nat.le_refl _) (by show 1 ≤ maxLen; decide))
  have X0 := Lib.hid ((Ext.refl w).alloc (.cells #[.string (tx T)] 9))
  have CP := fun (U : Tr) (h : U.carets ≤ 50) w => brPlaces_calls false U [] ⟨#[]⟩ w h (by simp; omega) rfl
  simp only [brPl_nil] at CP
  refine (CP T HT.out _).mono ?_
  rintro e w1 ⟨v1, rfl, o1, x1⟩
  obtain ⟨A1, n1, c1, rfl⟩ : ∃ A n c, v1 = .slice A n c := by obtain ⟨A, c, e, _⟩ := o1.reads; exact ⟨A, _, c, e⟩
  have O1 := Lib.hid o1
  have X1 := Lib.hid (X0.out.trans x1)
  have OX := Lib.hid (O0.out.ext x1)
  clear o1 x1
  go_wp2_with fail
  go_loopg [0, 3, 4] T.phi (fun f t o l wr => ∃ (U : Tr) (pre : List Tr) (A : Option Addr) (n c b : Nat), t = .string (tx U) ∧ l = .slice A n c ∧ Hid (U.phi = f) ∧ Hid (U.carets ≤ 50) ∧ Hid (pre ++ U.chain = T.chain) ∧
      Hid (Own wr w.heap.size 9 o (strs ((pre ++ [U]).map tx))) ∧ Hid (Own wr b 9 (.slice A n c) (sls (U.turns false))) ∧ Hid (Ext w wr) ∧ Hid (∀ k, o.ownBlock = some k → k < b))
  case atStart => exact ⟨T, [], A1, n1, c1, _, rfl, rfl, rfl, HT.out, rfl, OX.out, O1.out, X1.out, fun k hk => (O0.out.block k hk).2⟩
  case round =>
    obtain ⟨U, pre, A, n, c, b, rfl, rfl, H1, H2, H4, H5, H7, H8, H9⟩ := hrel
    cases ht : U.turns false with
    | nil =>
      have h7 := H7.out
      rw [ht] at h7
      obtain ⟨_, _, e1, _⟩ := h7.reads
      injection e1 with _ e2 _
      obtain rfl : n = 0 := e2
      have EC : Hid (pre ++ [U] = T.chain) := by show _ = _; rw [← H4.out, chain_none ht]
      clear h7 ht
      go_wp2_with fail
      go_ret
      exact ⟨_, rfl, EC.out ▸ H5.out, H8.out⟩
    | cons a l =>
      have h7 := H7.out
      rw [ht] at h7
      obtain ⟨_, _, e1, _, rd⟩ := h7.reads
      injection e1 with e0 e2 e3
      subst e0
      obtain ⟨ad, hA, ca⟩ := rd (by simp [sls])
      subst hA
      have c0 : wr.cell? ad = some (.string (S a)) := ca 0 _ rfl
      have hn : (0 : Int) < n := by rw [e2]; simp [sls]
      have hn' : 0 < n := by omega
      obtain ⟨V, hV, hs⟩ := step_cons ht
      have C := brAt_calls false a U (S a) wr H2.out rfl
      rw [hV] at C
      have C := Lib.hid C
      have PH := Lib.hid (step_phi hs)
      have EC : Hid ((pre ++ [U]) ++ V.chain = T.chain) := by show _ = _; rw [← H4.out, chain_step hs]; simp
      have LP : Hid ((strs ((pre ++ [U]).map tx)).length < 1000000) := by
        show _ < _
        have h2 := congrArg List.length EC.out
        have h3 := CL.out
        rw [strs_length, List.length_map]
        simp at h2 ⊢; omega
      clear h7 e2 e3 rd ca ht hV hs
      go_wp2_with fail
      refine C.out.mono ?_
      rintro e w2 ⟨⟨m, rfl⟩, rfl⟩
      have X2 := Lib.hid (H8.out.drewN m)
      have O2 := (H5.out.ext ((Ext.refl _).drewN m)).ext ((Ext.refl _).alloc (.cells #[.string (tx V)] 9))
      have RL := Lib.hid (Own.lit (wr.drewN m) 0 9 #[.string (tx V)] (Nat.zero_le _) (by show 1 ≤ maxLen; decide)).reads
      have LT : Hid (((strs ((pre ++ [U]).map tx)).length + (strs [tx V]).length) * 16 ≤ 140737488355328) := by show _ ≤ _; have := LP.out; show (_ + 1) * 16 ≤ _; omega
      have B1 := Lib.hid (X2.out.alloc (.cells #[.string (tx V)] 9)).size
      go_wp2_with (at_builtin; refine wpList_app rfl (.tmp 22) (.tmp 24) 56 rfl w.heap.size 9 (.string ⟨#[]⟩) 16 Try.underlying56 infoStr rfl (by omega) _ _ _ (strs [tx V]) rfl rfl O2 RL.out (strs_one _) LT.out B1.out ?_; intro v3 w3 o3 g3 _)
      have X3 := Lib.hid ((X2.out.alloc _).grown g3 O2.lo)
      rw [strs_append] at o3
      have O3 : Hid (Own w3 w.heap.size 9 v3 (strs (((pre ++ [U]) ++ [V]).map tx))) := Lib.hid (by simpa using o3)
      clear o3 g3 O2
      go_wp2_with fail
      refine (CP V (by have := PH.out.2; have := H2.out; omega) _).mono ?_
      rintro e w4 ⟨v4, rfl, o4, x4⟩
      obtain ⟨A4, n4, c4, rfl⟩ : ∃ A n c, v4 = .slice A n c := by obtain ⟨A, c, e, _⟩ := o4.reads; exact ⟨A, _, c, e⟩
      have O4 := Lib.hid o4
      have X4 := Lib.hid x4
      clear o4 x4
      go_wp2_with fail
      go_roundg V.phi
      case measure => have := H1.out; have := PH.out.1; omega
      case rel => exact ⟨V, pre ++ [U], A4, n4, c4, _, rfl, rfl, rfl, by show _ ≤ _; have := PH.out.2; have := H2.out; omega, EC.out, O3.out.ext X4.out, O4.out, X3.out.trans X4.out, fun k hk => (O3.out.block k hk).2⟩
end Go.Proofs.Ytijnadjgmmednaa.N
