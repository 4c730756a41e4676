import Derived.Deep.LoopGhost
import Derived.Laws.BytesArg
import Derived.Lib.ConvBytes
import Derived.Test.YtdcipaaclpedhaaGreatXr6
/- A part of the proof: lemmas that later parts use. -/
set_option linter.unusedVariables false
set_option linter.unusedSimpArgs false
namespace Go.Proofs.YtdcipaaclpedhaaGreat.N
open Go.RowKit
def strs (xs : List ByteArray) : List Value := xs.map fun s => .string s
def ints (xs : List Int) : List Value := xs.map fun n => .int .i64 n
theorem strs_length (xs : List ByteArray) : (strs xs).length = xs.length := by simp [strs]
theorem ints_length (xs : List Int) : (ints xs).length = xs.length := by simp [ints]
theorem strs_one (xs : List ByteArray) : ∀ u ∈ strs xs, u.oneCell' = true := by
  intro u hu; obtain ⟨s, _, rfl⟩ := List.mem_map.1 hu; rfl
theorem ints_one (xs : List Int) : ∀ u ∈ ints xs, u.oneCell' = true := by
  intro u hu; obtain ⟨s, _, rfl⟩ := List.mem_map.1 hu; rfl
theorem strs_append (xs ys : List ByteArray) : strs xs ++ strs ys = strs (xs ++ ys) := by simp [strs]
theorem strs_get (xs : List ByteArray) (k : Nat) (h : k < xs.length) : (strs xs)[k]? = some (.string xs[k]) := by simp [strs, List.getElem?_eq_getElem h]
theorem ints_get (xs : List Int) (k : Nat) (h : k < xs.length) : (ints xs)[k]? = some (.int .i64 xs[k]) := by simp [ints, List.getElem?_eq_getElem h]
end Go.Proofs.YtdcipaaclpedhaaGreat.N
namespace Go.Proofs.YtdcipaaclpedhaaGreat.N
open Go.RowKit
theorem infoInt : (Tryz.prog.info? 3).map (fun i => (i.zero, i.size, i.bytes)) = some (some (.int .i64 0), 1, 8) := by kernel_rfl
def nats (xs : List Nat) : List Value := ints (xs.map fun (n : Nat) => (n : Int))
theorem nats_length (xs : List Nat) : (nats xs).length = xs.length := by simp [nats, ints]
theorem nats_append (xs ys : List Nat) : nats xs ++ nats ys = nats (xs ++ ys) := by simp [nats, ints]
theorem nats_one (xs : List Nat) : ∀ u ∈ nats xs, u.oneCell' = true := ints_one _
theorem nats_get (xs : List Nat) (k : Nat) (h : k < xs.length) : (nats xs)[k]? = some (.int .i64 (xs[k] : Nat)) := by simp [nats, ints, List.getElem?_eq_getElem h]
def GivesN (w : World) (xs : List Nat) (e : Ending) (w' : World) : Prop := ∃ v, e = .returned v ∧ Own w' w.heap.size 3 v (nats xs) ∧ Ext w w'
set_option maxHeartbeats 3200000 in
set_option maxRecDepth 100000 in
theorem exposed_calls (T : Tr) : ∀ (k : Nat) (p : Option Addr) (w : World), k + T.carets < 100000000 → Rep w T p →
    Calls Tryz.prog 80 #[.pointer p, .int .i64 k] w (GivesN w (expo T k)) := by
  induction T with
  | leaf =>
    intro k p w _ hr
    obtain rfl := hr
    go_enter Tryz.func80, Tryz.ntmps80
    go_wp2_with fail
    go_ret
    exact ⟨_, rfl, Own.nil _ _ _, Ext.refl _⟩
  | node l r ihl ihr =>
    intro k p w hc hr
    have op := hr.open
    clear hr
    obtain ⟨b, pl, pr, rfl, h0, h1, hl, hr⟩ := op
    by_cases hh : l = .leaf ∧ r = .leaf
    · obtain ⟨rfl, rfl⟩ := hh
      obtain rfl := hl
      obtain rfl := hr
      have o := Own.lit w w.heap.size 3 #[.int .i64 k] (Nat.le_refl _) (by show 1 ≤ maxLen; decide)
      have O := Lib.hid o
      clear o hc ihl ihr
      go_enter Tryz.func80, Tryz.ntmps80
      go_wp2_with fail
      go_ret
      exact ⟨_, rfl, O.out, (Ext.refl _).alloc _⟩
    · have hcc : (Tr.node l r).carets = 1 + l.carets + r.carets := rfl
      have e1 : 0 ≤ (l.carets : Int) ∧ (k : Int) + l.carets + 1 < 1000000000 := by omega
      have W1 : Hid ((k : Int) + (l.carets + 1) = ((k + (l.carets + 1) : Nat) : Int)) := by show _ = _; omega
      have W2 : IntKind.i64.wrap ((k : Int) + (l.carets + 1)) = (k : Int) + (l.carets + 1) := wrap_ok (by omega)
      have EN := Lib.hid (expo_node hh k)
      have NL := expo_length l k
      have NR := expo_length r (k + (l.carets + 1))
      have L1 : Hid (((nats (expo l k)).length + (nats (expo r (k + (l.carets + 1)))).length) * 8 ≤ 140737488355328) := by show _ ≤ _; rw [nats_length, nats_length]; omega
      have H := Lib.hid (And.intro hl hr)
      have HC : Hid (k + l.carets < 100000000 ∧ k + (l.carets + 1) + r.carets < 100000000 ∧ l.carets < 1000000000) := ⟨by omega, by omega, by omega⟩
      clear hc hcc NL NR
      cases l with
      | leaf =>
        obtain rfl := hl
        cases r with
        | leaf => exact absurd ⟨rfl, rfl⟩ hh
        | node x y =>
          obtain ⟨b2, px, py, e2, _⟩ := hr
          subst e2
          clear hh
          go_enter Tryz.func80, Tryz.ntmps80
          go_wp2_with fail
          go_region_held3 (fun w' => w'.cell? ⟨b, 0, none⟩ = some (.pointer none) ∧ w'.cell? ⟨b, 1, none⟩ = some (.pointer (some ⟨b2, 0, none⟩)) ∧ Ext w w')
            (first | exact two_cells h0 h1 (Ext.drew (Ext.refl _)) | exact two_cells h0 h1 x4 | exact two_cells h0 h1 x3 | exact two_cells h0 h1 x2 | exact two_cells h0 h1 x1 | fail)
            (first
              | (go_at_call 83; refine (leaves_calls .leaf _ _ HC.out.2.2 (H.out.1.ext x1)).mono ?_; rintro e w2 ⟨rfl, n2, rfl⟩; have x2 := x1.drewN n2)
              | (go_at_call_of 80 (Value.pointer none); refine (ihl _ _ _ HC.out.1 (H.out.1.ext (Ext.refl _).drew)).mono ?_; rintro e w1 ⟨v1, rfl, o1, hx1⟩; have x1 := (Ext.refl w).drew.trans hx1)
              | (go_at_call_of 80 (Value.pointer (some ⟨b2, 0, none⟩)); rw [W1.out]; refine (ihr _ _ _ HC.out.2.1 (H.out.2.ext x2)).mono ?_; rintro e w3 ⟨v3, rfl, o3, hx3⟩; have x3 := x2.trans hx3)
              | (refine step_app (by rfl) (.tmp 26) (.tmp 38) 49 (by rfl) w.heap.size 3 (.int .i64 0) 8 Tryz.underlying49 infoInt rfl (by omega) _ _ (nats (expo .leaf k)) (nats (expo (.node x y) (k + (Tr.leaf.carets + 1)))) (by rfl) (by rfl) (((o1.ext ((Ext.refl _).drewN n2)).ext hx3).mono ((Ext.refl w).drew).size) o3.reads (nats_one _) L1.out x3.size ?_; intro v4 w4 o4 g4 _; have x4 := x3.grown g4 (fun q hq => Nat.le_trans ((Ext.refl w).drew).size (o1.lo q hq)))
              | fail)
          go_wp2_with fail
          go_ret
          refine ⟨_, rfl, ?_, x4⟩
          rw [EN.out]
          rw [nats_append] at o4
          exact o4
      | node x y =>
        obtain ⟨b2, px, py, e2, _⟩ := hl
        subst e2
        clear hh hr
        go_enter Tryz.func80, Tryz.ntmps80
        go_wp2_with fail
        go_region_held3 (fun w' => w'.cell? ⟨b, 0, none⟩ = some (.pointer (some ⟨b2, 0, none⟩)) ∧ w'.cell? ⟨b, 1, none⟩ = some (.pointer pr) ∧ Ext w w')
          (first | exact two_cells h0 h1 (Ext.drew (Ext.refl _)) | exact two_cells h0 h1 x4 | exact two_cells h0 h1 x3 | exact two_cells h0 h1 x2 | exact two_cells h0 h1 x1 | fail)
          (first
            | (go_at_call 83; refine (leaves_calls (.node x y) _ _ HC.out.2.2 (H.out.1.ext x1)).mono ?_; rintro e w2 ⟨rfl, n2, rfl⟩; have x2 := x1.drewN n2)
            | (go_at_call_of 80 (Value.pointer (some ⟨b2, 0, none⟩)); refine (ihl _ _ _ HC.out.1 (H.out.1.ext (Ext.refl _).drew)).mono ?_; rintro e w1 ⟨v1, rfl, o1, hx1⟩; have x1 := (Ext.refl w).drew.trans hx1)
            | (go_at_call_of 80 (Value.pointer pr); rw [W1.out]; refine (ihr _ _ _ HC.out.2.1 (H.out.2.ext x2)).mono ?_; rintro e w3 ⟨v3, rfl, o3, hx3⟩; have x3 := x2.trans hx3)
            | (refine step_app (by rfl) (.tmp 26) (.tmp 38) 49 (by rfl) w.heap.size 3 (.int .i64 0) 8 Tryz.underlying49 infoInt rfl (by omega) _ _ (nats (expo (.node x y) k)) (nats (expo r (k + ((Tr.node x y).carets + 1)))) (by rfl) (by rfl) (((o1.ext ((Ext.refl _).drewN n2)).ext hx3).mono ((Ext.refl w).drew).size) o3.reads (nats_one _) L1.out x3.size ?_; intro v4 w4 o4 g4 _; have x4 := x3.grown g4 (fun q hq => Nat.le_trans ((Ext.refl w).drew).size (o1.lo q hq)))
            | fail)
        go_wp2_with fail
        go_ret
        refine ⟨_, rfl, ?_, x4⟩
        rw [EN.out]
        rw [nats_append] at o4
        exact o4
set_option maxHeartbeats 3200000 in
set_option maxRecDepth 100000 in
theorem without_calls (T : Tr) : ∀ (k : Nat) (p : Option Addr) (w : World), T.carets < 100000000 → k ∈ expo T 0 → Rep w T p →
    Calls Tryz.prog 82 #[.pointer p, .int .i64 k] w (GivesT w (without T k)) := by
  induction T with
  | leaf => intro k p w _ hk; cases hk
  | node l r ihl ihr =>
    intro k p w hc hk hr
    have op := hr.open
    clear hr
    obtain ⟨b, pl, pr, rfl, h0, h1, hl, hr⟩ := op
    by_cases hh : l = .leaf ∧ r = .leaf
    · obtain ⟨rfl, rfl⟩ := hh
      obtain rfl := hl
      obtain rfl := hr
      clear hc hk ihl ihr
      go_enter Tryz.func82, Tryz.ntmps82
      go_wp2_with fail
      go_ret
      exact ⟨_, rfl, rfl, Ext.refl _⟩
    · have H := Lib.hid (And.intro hl hr)
      cases l with
      | leaf =>
        obtain rfl := hl
        cases r with
        | leaf => exact absurd ⟨rfl, rfl⟩ hh
        | node x y =>
          obtain ⟨b2, px, py, e2, _⟩ := hr
          subst e2
          have HC2 := hc
          rcases mem_expo_node hh hk with ⟨k1, k2⟩ | ⟨k1, k2⟩
          · have t1 : (k : Int) < Tr.leaf.carets + 1 := by omega
            have EN : Hid (without (.node .leaf (.node x y)) k = .node (without .leaf k) (.node x y)) := by show _ = _; rw [without_node hh, if_neg (by omega)]
            have HC : Hid (Tr.leaf.carets < 1000000000 ∧ Tr.leaf.carets < 100000000 ∧ k ∈ expo .leaf 0) := ⟨by simp only [Tr.carets] at hc ⊢; omega, by simp only [Tr.carets] at hc ⊢; omega, k2⟩
            have W1 : Hid ((k : Int) = k) := rfl
            have c0 : 0 ≤ (Tr.leaf.carets : Int) ∧ (Tr.leaf.carets : Int) < 1000000000 := by have := HC.out.1; omega
            clear hc hk k1 k2 hh HC2
            go_enter Tryz.func82, Tryz.ntmps82
            go_wp2_with fail
            refine (leaves_calls .leaf _ _ HC.out.1 H.out.1).mono ?_
            rintro e w1 ⟨rfl, n1, rfl⟩
            go_wp2_with fail
            go_region_held3 (fun w' => w'.cell? ⟨b, 0, none⟩ = some (.pointer none) ∧ w'.cell? ⟨b, 1, none⟩ = some (.pointer (some ⟨b2, 0, none⟩)) ∧ Ext w w')
              (first | exact two_cells h0 h1 ((Ext.refl _).drewN n1).drew | exact two_cells h0 h1 ((Ext.refl _).drewN _) | exact two_cells h0 h1 (x3.alloc _) | exact two_cells h0 h1 x3 | fail)
              (first
                | (go_at_call 82; refine (ihl _ _ _ HC.out.2.1 HC.out.2.2 (H.out.1.ext (by first | exact ((Ext.refl _).drewN n1).drew | exact ((Ext.refl _).drewN _) | fail))).mono ?_; rintro e w3 ⟨p3, rfl, r3, hx3⟩; have x3 : Ext w w3 := (by first | exact ((Ext.refl w).drewN n1).drew.trans hx3 | exact ((Ext.refl w).drewN _).trans hx3 | fail))
                | fail)
            go_wp2_with fail
            go_ret
            rw [EN.out]
            exact ⟨_, rfl, Rep.made r3 (H.out.2.ext x3), x3.alloc _⟩
          · have t1 : ¬ (k : Int) < Tr.leaf.carets + 1 := by omega
            have t2 : ((Tr.leaf.carets : Int) + 1) ≤ k := by omega
            have EN : Hid (without (.node .leaf (.node x y)) k = .node .leaf (without (.node x y) (k - (Tr.leaf.carets + 1)))) := by show _ = _; rw [without_node hh, if_pos k1]
            have HC : Hid (Tr.leaf.carets < 1000000000 ∧ (Tr.node x y).carets < 100000000 ∧ k - (Tr.leaf.carets + 1) ∈ expo (.node x y) 0) := ⟨by simp only [Tr.carets] at hc ⊢; omega, by simp only [Tr.carets] at hc ⊢; omega, k2⟩
            have W1 : Hid ((k : Int) - (Tr.leaf.carets + 1) = ((k - (Tr.leaf.carets + 1) : Nat) : Int)) := by show _ = _; omega
            have c0 : 0 ≤ (Tr.leaf.carets : Int) ∧ (Tr.leaf.carets : Int) < 1000000000 := by have := HC.out.1; omega
            have c1 : (k : Int) < 1000000000 := by have := (expo_range _ _ _ hk).2.1; omega
            have W2 : IntKind.i64.wrap ((k : Int) - (Tr.leaf.carets + 1)) = (k : Int) - (Tr.leaf.carets + 1) := wrap_ok (by omega)
            clear hc hk k1 k2 hh HC2
            go_enter Tryz.func82, Tryz.ntmps82
            go_wp2_with fail
            refine (leaves_calls .leaf _ _ HC.out.1 H.out.1).mono ?_
            rintro e w1 ⟨rfl, n1, rfl⟩
            go_wp2_with fail
            go_region_held3 (fun w' => w'.cell? ⟨b, 0, none⟩ = some (.pointer none) ∧ w'.cell? ⟨b, 1, none⟩ = some (.pointer (some ⟨b2, 0, none⟩)) ∧ Ext w w')
              (first | exact two_cells h0 h1 ((Ext.refl _).drewN n1).drew | exact two_cells h0 h1 ((Ext.refl _).drewN _) | exact two_cells h0 h1 (x3.alloc _) | exact two_cells h0 h1 x3 | fail)
              (first
                | (go_at_call 82; rw [W1.out]; refine (ihr _ _ _ HC.out.2.1 HC.out.2.2 (H.out.2.ext (by first | exact ((Ext.refl _).drewN n1).drew | exact ((Ext.refl _).drewN _) | fail))).mono ?_; rintro e w3 ⟨p3, rfl, r3, hx3⟩; have x3 : Ext w w3 := (by first | exact ((Ext.refl w).drewN n1).drew.trans hx3 | exact ((Ext.refl w).drewN _).trans hx3 | fail))
                | fail)
            go_wp2_with fail
            go_ret
            rw [EN.out]
            exact ⟨_, rfl, Rep.made (H.out.1.ext x3) r3, x3.alloc _⟩
      | node x y =>
        obtain ⟨b2, px, py, e2, _⟩ := hl
        subst e2
        clear hr
        have HC2 := hc
        rcases mem_expo_node hh hk with ⟨k1, k2⟩ | ⟨k1, k2⟩
        · have t1 : (k : Int) < (Tr.node x y).carets + 1 := by omega
          have EN : Hid (without (.node (.node x y) r) k = .node (without (.node x y) k) r) := by show _ = _; rw [without_node hh, if_neg (by omega)]
          have HC : Hid ((Tr.node x y).carets < 1000000000 ∧ (Tr.node x y).carets < 100000000 ∧ k ∈ expo (.node x y) 0) := ⟨by simp only [Tr.carets] at hc ⊢; omega, by simp only [Tr.carets] at hc ⊢; omega, k2⟩
          have W1 : Hid ((k : Int) = k) := rfl
          have c0 : 0 ≤ ((Tr.node x y).carets : Int) ∧ ((Tr.node x y).carets : Int) < 1000000000 := by have := HC.out.1; omega
          clear hc hk k1 k2 hh HC2
          go_enter Tryz.func82, Tryz.ntmps82
          go_wp2_with fail
          refine (leaves_calls (.node x y) _ _ HC.out.1 H.out.1).mono ?_
          rintro e w1 ⟨rfl, n1, rfl⟩
          go_wp2_with fail
          go_region_held3 (fun w' => w'.cell? ⟨b, 0, none⟩ = some (.pointer (some ⟨b2, 0, none⟩)) ∧ w'.cell? ⟨b, 1, none⟩ = some (.pointer pr) ∧ Ext w w')
            (first | exact two_cells h0 h1 ((Ext.refl _).drewN n1).drew | exact two_cells h0 h1 ((Ext.refl _).drewN _) | exact two_cells h0 h1 (x3.alloc _) | exact two_cells h0 h1 x3 | fail)
            (first
              | (go_at_call 82; refine (ihl _ _ _ HC.out.2.1 HC.out.2.2 (H.out.1.ext (by first | exact ((Ext.refl _).drewN n1).drew | exact ((Ext.refl _).drewN _) | fail))).mono ?_; rintro e w3 ⟨p3, rfl, r3, hx3⟩; have x3 : Ext w w3 := (by first | exact ((Ext.refl w).drewN n1).drew.trans hx3 | exact ((Ext.refl w).drewN _).trans hx3 | fail))
              | fail)
          go_wp2_with fail
          go_ret
          rw [EN.out]
          exact ⟨_, rfl, Rep.made r3 (H.out.2.ext x3), x3.alloc _⟩
        · have t1 : ¬ (k : Int) < (Tr.node x y).carets + 1 := by omega
          have t2 : (((Tr.node x y).carets : Int) + 1) ≤ k := by omega
          have EN : Hid (without (.node (.node x y) r) k = .node (.node x y) (without r (k - ((Tr.node x y).carets + 1)))) := by show _ = _; rw [without_node hh, if_pos k1]
          have HC : Hid ((Tr.node x y).carets < 1000000000 ∧ (r).carets < 100000000 ∧ k - ((Tr.node x y).carets + 1) ∈ expo r 0) := ⟨by simp only [Tr.carets] at hc ⊢; omega, by simp only [Tr.carets] at hc ⊢; omega, k2⟩
          have W1 : Hid ((k : Int) - ((Tr.node x y).carets + 1) = ((k - ((Tr.node x y).carets + 1) : Nat) : Int)) := by show _ = _; omega
          have c0 : 0 ≤ ((Tr.node x y).carets : Int) ∧ ((Tr.node x y).carets : Int) < 1000000000 := by have := HC.out.1; omega
          have c1 : (k : Int) < 1000000000 := by have := (expo_range _ _ _ hk).2.1; omega
          have W2 : IntKind.i64.wrap ((k : Int) - ((Tr.node x y).carets + 1)) = (k : Int) - ((Tr.node x y).carets + 1) := wrap_ok (by omega)
          clear hc hk k1 k2 hh HC2
          go_enter Tryz.func82, Tryz.ntmps82
          go_wp2_with fail
          refine (leaves_calls (.node x y) _ _ HC.out.1 H.out.1).mono ?_
          rintro e w1 ⟨rfl, n1, rfl⟩
          go_wp2_with fail
          go_region_held3 (fun w' => w'.cell? ⟨b, 0, none⟩ = some (.pointer (some ⟨b2, 0, none⟩)) ∧ w'.cell? ⟨b, 1, none⟩ = some (.pointer pr) ∧ Ext w w')
            (first | exact two_cells h0 h1 ((Ext.refl _).drewN n1).drew | exact two_cells h0 h1 ((Ext.refl _).drewN _) | exact two_cells h0 h1 (x3.alloc _) | exact two_cells h0 h1 x3 | fail)
            (first
              | (go_at_call 82; rw [W1.out]; refine (ihr _ _ _ HC.out.2.1 HC.out.2.2 (H.out.2.ext (by first | exact ((Ext.refl _).drewN n1).drew | exact ((Ext.refl _).drewN _) | fail))).mono ?_; rintro e w3 ⟨p3, rfl, r3, hx3⟩; have x3 : Ext w w3 := (by first | exact ((Ext.refl w).drewN n1).drew.trans hx3 | exact ((Ext.refl w).drewN _).trans hx3 | fail))
              | fail)
          go_wp2_with fail
          go_ret
          rw [EN.out]
          exact ⟨_, rfl, Rep.made (H.out.1.ext x3) r3, x3.alloc _⟩
end Go.Proofs.YtdcipaaclpedhaaGreat.N
namespace Go.Proofs.YtdcipaaclpedhaaGreat.N
open Go.RowKit
def ix : List Int → Int → Nat → Int
  | [], _, _ => -1
  | x :: l, n, k => if x = n then (k : Int) else ix l n (k + 1)
theorem ix_ge : ∀ (l : List Int) (n : Int) (k : Nat), (0 ≤ ix l n k ↔ n ∈ l) ∧ -1 ≤ ix l n k
  | [], n, k => by simp [ix]
  | x :: l, n, k => by
    simp only [ix, List.mem_cons]
    by_cases h : x = n
    · rw [if_pos h]; exact ⟨⟨fun _ => .inl h.symm, fun _ => by omega⟩, by omega⟩
    · rw [if_neg h]
      obtain ⟨h1, h2⟩ := ix_ge l n (k + 1)
      refine ⟨⟨fun h' => .inr (h1.1 h'), fun h' => ?_⟩, h2⟩
      rcases h' with e | e
      · exact absurd e.symm h
      · exact h1.2 e
set_option maxHeartbeats 1600000 in
theorem indexInt_calls (xs : List Int) (n : Int) (hl : xs.length < 100000000) (v : Value) (w : World) (hv : Reads w v (ints xs)) :
    Calls Tryz.prog 95 #[v, .int .i64 n] w fun e w' => e = .returned (.int .i64 (ix xs n 0)) ∧ w = w' := by
  obtain ⟨A, c, rfl, _, rd⟩ := hv
  rw [ints_length] at *
  have RD := Lib.hid rd
  clear rd
  go_enter Tryz.func95, Tryz.ntmps95
  go_wp2
  go_loop [8] (fun i => ∃ k : Nat, k ≤ xs.length ∧ i = .int .i64 k ∧ Hid (ix (xs.drop k) n k = ix xs n 0)) (fun i => xs.length - (intOf i).toNat)
  case atStart => exact ⟨0, Nat.zero_le _, rfl, rfl⟩
  case round =>
    obtain ⟨k, hk, rfl, HI⟩ := hrel
    by_cases hlt : k < xs.length
    · obtain ⟨ad, rfl, ca⟩ := RD.out (by omega)
      have c1 := ca k _ (ints_get xs k hlt)
      have h0 : (0 : Int) ≤ k := by omega
      have h1 : (k : Int) < xs.length := by omega
      have HD : Hid (xs.drop k = xs[k] :: xs.drop (k + 1)) := List.drop_eq_getElem_cons hlt
      clear ca
      by_cases hx : xs[k] = n
      · have HE : Hid (ix xs n 0 = (k : Int)) := by show _ = _; rw [← HI.out, HD.out, ix, if_pos hx]
        rw [hx] at c1
        clear hx HD
        go_wp2
        go_ret
        exact ⟨by rw [HE.out]; rfl, rfl⟩
      · have HE : Hid (ix (xs.drop (k + 1)) n (k + 1) = ix xs n 0) := by show _ = _; rw [← HI.out, HD.out, ix, if_neg hx]
        have t1 : (n == xs[k]) = false := by rw [beq_eq_false_iff_ne]; exact fun e => hx e.symm
        clear hx HD
        generalize xs[k] = x at *
        go_wp2
        exact ⟨⟨k + 1, by omega, by go_num, HE.out⟩, by simp [intOf]; omega⟩
    · have h1 : (xs.length : Int) ≤ k := by omega
      have HE : Hid (ix xs n 0 = -1) := by show _ = _; rw [← HI.out, List.drop_eq_nil_of_le (by omega)]; rfl
      go_wp2
      go_ret
      exact ⟨by rw [HE.out]; rfl, rfl⟩
theorem containsInt_calls (xs : List Int) (n : Int) (hl : xs.length < 100000000) (v : Value) (w : World) (hv : Reads w v (ints xs)) :
    Calls Tryz.prog 81 #[v, .int .i64 n] w fun e w' => e = .returned (.bool (decide (n ∈ xs))) ∧ w = w' := by
  have C := Lib.hid (indexInt_calls xs n hl v w hv)
  obtain ⟨h1, h2⟩ := ix_ge xs n 0
  by_cases h : n ∈ xs
  · have h3 := h1.2 h
    rw [decide_eq_true h]
    clear h1 h hv
    go_enter Tryz.func81, Tryz.ntmps81
    go_wp2_with fail
    refine (C.out).mono ?_
    rintro e w1 ⟨rfl, rfl⟩
    go_wp2_with fail
    go_ret
    exact ⟨by first | (simp; done) | (simp; omega), rfl⟩
  · have h3 : ¬ 0 ≤ ix xs n 0 := fun h' => h (h1.1 h')
    rw [decide_eq_false h]
    clear h1 h hv
    go_enter Tryz.func81, Tryz.ntmps81
    go_wp2_with fail
    refine (C.out).mono ?_
    rintro e w1 ⟨rfl, rfl⟩
    go_wp2_with fail
    go_ret
    exact ⟨by first | (simp; done) | (simp; omega), rfl⟩
theorem mem_cast (l : List Nat) (x : Nat) : ((x : Int) ∈ l.map fun (n : Nat) => (n : Int)) ↔ x ∈ l := by
  rw [List.mem_map]
  constructor
  · rintro ⟨a, h, e⟩
    obtain rfl : a = x := Int.ofNat.inj e
    exact h
  · intro h
    exact ⟨x, h, rfl⟩
set_option maxHeartbeats 3200000 in
set_option maxRecDepth 100000 in
theorem both_calls (A B : Tr) (hA : A.carets < 10000000) (hB : B.carets < 10000000) (pa pb : Option Addr) (w : World) (ra : Rep w A pa) (rb : Rep w B pb) :
    Calls Tryz.prog 58 #[.agg #[.pointer pa, .pointer pb]] w (GivesN w (bothT A B)) := by
  have X0 := Lib.hid ((Ext.refl w).alloc (.cells #[.pointer pa, .pointer pb] 57))
  have C1 := exposed_calls B 0 pb _ (by omega) (rb.ext X0.out)
  have C2 := fun W (hx : Ext w W) => exposed_calls A 0 pa W (by omega) (ra.ext hx)
  have LA := expo_length A 0
  have LB := expo_length B 0
  have EB : Hid (bothT A B = (expo A 0).filter fun k => (expo B 0).contains k) := rfl
  have LA' : (expo A 0).length < 10000000 := by omega
  have LB' : (expo B 0).length < 10000000 := by omega
  clear ra rb LA LB hA hB
  generalize expo A 0 = fa at *
  generalize expo B 0 = fb at *
  go_enter Tryz.func58, Tryz.ntmps58
  go_wp2_with fail
  refine C1.mono ?_
  rintro e w1 ⟨v1, rfl, o1, x1⟩
  have O1 := Lib.hid o1
  have X1 := Lib.hid (X0.out.trans x1)
  have h1 : w1.cell? ⟨w.heap.size, 0, none⟩ = some (.pointer pa) := x1.cell (by go_simp)
  clear o1 x1
  go_wp2_with fail
  refine (C2 _ X1.out).mono ?_
  rintro e w2 ⟨v2, rfl, o2, x2⟩
  obtain ⟨A2, c2, rfl, _, rd2⟩ := o2.reads
  rw [nats_length] at rd2 ⊢
  have RD := Lib.hid rd2
  have R1 := Lib.hid (O1.out.reads.ext x2)
  have X2 := Lib.hid (X1.out.trans x2)
  clear rd2 o2 x2 h1 O1
  go_wp2_with fail
  go_loopw [3, 14] (fun o i wr => ∃ k : Nat, k ≤ fa.length ∧ i = .int .i64 k ∧ Hid (Own wr w2.heap.size 3 o (nats ((fa.take k).filter fun k => fb.contains k))) ∧ Hid (Ext w2 wr)) (fun _ i _ => fa.length - (intOf i).toNat)
  case atStart => exact ⟨0, Nat.zero_le _, rfl, Own.nil _ _ _, Ext.refl _⟩
  case round =>
    obtain ⟨k, hk, rfl, HO, HX⟩ := hrel
    by_cases hlt : k < fa.length
    · obtain ⟨ad, rfl, ca⟩ := RD.out (by omega)
      have c1 := HX.out.cell (ca k _ (nats_get fa k hlt))
      have h0 : (0 : Int) ≤ k := by omega
      have h1 : (k : Int) < fa.length := by omega
      have FT := Lib.hid (filter_take (fun k => fb.contains k) fa k hlt)
      have LT : Hid (((fa.take k).filter fun k => fb.contains k).length ≤ k) := Nat.le_trans (List.length_filter_le _ _) (List.length_take_le _ _)
      clear ca
      generalize fa[k] = x at *
      have CC := Lib.hid (containsInt_calls (fb.map fun (n : Nat) => (n : Int)) x (by simp; omega) v1 wr (R1.out.ext HX.out))
      have DM : Hid (decide ((x : Int) ∈ fb.map fun (n : Nat) => (n : Int)) = fb.contains x) := by show _ = _; rw [Bool.eq_iff_iff, decide_eq_true_eq, mem_cast]; simp
      cases hc : fb.contains x with
      | false =>
        have FT2 : Hid ((fa.take (k + 1)).filter (fun k => fb.contains k) = (fa.take k).filter (fun k => fb.contains k)) := Lib.hid (by have := FT.out; rw [hc] at this; simpa using this)
        have D2 : Hid (decide ((x : Int) ∈ fb.map fun (n : Nat) => (n : Int)) = false) := Lib.hid (DM.out.trans hc)
        clear hc
        go_wp2_with fail
        refine CC.out.mono ?_
        rw [D2.out]
        rintro e w3 ⟨rfl, rfl⟩
        go_wp2_with fail
        exact ⟨⟨k + 1, by omega, by go_num, FT2.out.symm ▸ HO.out, HX.out⟩, by simp [intOf]; omega⟩
      | true =>
        have FT2 : Hid ((fa.take (k + 1)).filter (fun k => fb.contains k) = (fa.take k).filter (fun k => fb.contains k) ++ [x]) := Lib.hid (by have := FT.out; rw [hc] at this; simpa using this)
        have D2 : Hid (decide ((x : Int) ∈ fb.map fun (n : Nat) => (n : Int)) = true) := Lib.hid (DM.out.trans hc)
        have RL := Lib.hid (Own.lit wr 0 3 #[.int .i64 x] (Nat.zero_le _) (by show 1 ≤ maxLen; decide)).reads
        have O2 := HO.out.ext ((Ext.refl _).alloc (.cells #[.int .i64 x] 3))
        have LL : Hid (((nats ((fa.take k).filter fun k => fb.contains k)).length + (nats [x]).length) * 8 ≤ 140737488355328) := by show _ ≤ _; rw [nats_length, nats_length]; have := LT.out; show (_ + 1) * 8 ≤ _; omega
        have B1 := Lib.hid (HX.out.alloc (.cells #[.int .i64 x] 3)).size
        clear hc
        go_wp2_with fail
        refine CC.out.mono ?_
        rw [D2.out]
        rintro e w3 ⟨rfl, rfl⟩
        go_wp2_with (at_builtin; refine wpList_app rfl (.tmp 21) (.tmp 23) 49 rfl w2.heap.size 3 (.int .i64 0) 8 Tryz.underlying49 infoInt rfl (by omega) _ _ _ (nats [x]) rfl rfl O2 RL.out (nats_one _) LL.out B1.out ?_; intro v4 w4 o4 g4 _)
        have X4 := Lib.hid ((HX.out.alloc _).grown g4 O2.lo)
        rw [nats_append] at o4
        have O4 := Lib.hid o4
        clear o4 g4 O2
        go_wp2_with fail
        exact ⟨⟨k + 1, by omega, by go_num, FT2.out.symm ▸ O4.out, X4.out⟩, by simp [intOf]; omega⟩
    · have h1 : (fa.length : Int) ≤ k := by omega
      have E : Hid (fa.take k = fa) := List.take_of_length_le (by omega)
      go_wp2_with fail
      go_ret
      refine ⟨_, rfl, ?_, X2.out.trans HX.out⟩
      rw [EB.out]
      exact (E.out ▸ HO.out).mono X2.out.size
end Go.Proofs.YtdcipaaclpedhaaGreat.N
namespace Go.Proofs.YtdcipaaclpedhaaGreat.N
open Go.RowKit
def ReadsM (w : World) (v : Value) (xss : List (List Int)) : Prop :=
  ∃ vs : List Value, Reads w v vs ∧ vs.length = xss.length ∧ ∀ (r : Nat) (xs : List Int), xss[r]? = some xs → ∃ u, vs[r]? = some u ∧ Reads w u (ints xs)
theorem ReadsM.ext {w w' : World} {v : Value} {xss : List (List Int)} (h : ReadsM w v xss) (hx : Ext w w') : ReadsM w' v xss := by
  obtain ⟨vs, h1, h2, h3⟩ := h
  exact ⟨vs, h1.ext hx, h2, fun r xs e => let ⟨u, a, b⟩ := h3 r xs e; ⟨u, a, b.ext hx⟩⟩
theorem ReadsM.open {w : World} {v : Value} {xss : List (List Int)} (h : ReadsM w v xss) : ∃ A c, v = .slice A xss.length c ∧ (A = none → c = 0) ∧
    ∀ (r : Nat) (xs : List Int), xss[r]? = some xs → ∃ ad B d, A = some ad ∧ w.cell? (ad.add r) = some (.slice B xs.length d) ∧ Reads w (.slice B xs.length d) (ints xs) := by
  obtain ⟨vs, ⟨A, c, rfl, h0, h1⟩, h2, h3⟩ := h
  refine ⟨A, c, by rw [h2], h0, fun r xs e => ?_⟩
  obtain ⟨u, hu, k⟩ := h3 r xs e
  obtain ⟨ad, rfl, hc⟩ := h1 (by have := (List.getElem?_eq_some_iff.1 hu).1; omega)
  have hcu := hc r u hu
  obtain ⟨B, d, rfl, k0, k1⟩ := k
  rw [ints_length] at *
  exact ⟨ad, B, d, rfl, hcu, ⟨B, d, by rw [ints_length], k0, by rw [ints_length]; exact k1⟩⟩
def Rows (w : World) (base : Nat) (us : List Value) (xss : List (List Int)) : Prop :=
  us.length = xss.length ∧ (∀ (r : Nat) (xs : List Int), xss[r]? = some xs → ∃ u, us[r]? = some u ∧ Own w base 3 u (ints xs)) ∧
  ∀ (r s : Nat) (u v : Value), r < s → us[r]? = some u → us[s]? = some v → ∀ k, u.ownBlock = some k → v.ownBlock ≠ some k
def OwnM (w : World) (base : Nat) (v : Value) (xss : List (List Int)) : Prop := ∃ us, Own w base 49 v us ∧ Rows w base us xss
theorem OwnM.reads {w : World} {base : Nat} {v : Value} {xss : List (List Int)} (h : OwnM w base v xss) : ReadsM w v xss := by
  obtain ⟨us, h1, h2, h3, _⟩ := h
  exact ⟨us, h1.reads, h2, fun r xs e => let ⟨u, a, b⟩ := h3 r xs e; ⟨u, a, b.reads⟩⟩
theorem Rows.nil (w : World) (base : Nat) : Rows w base [] [] := ⟨rfl, fun r xs e => by simp at e, fun r s u v _ e => by simp at e⟩
theorem Rows.ext {w w' : World} {base : Nat} {us : List Value} {xss : List (List Int)} (h : Rows w base us xss) (hx : Ext w w') : Rows w' base us xss :=
  ⟨h.1, fun r xs e => let ⟨u, a, b⟩ := h.2.1 r xs e; ⟨u, a, b.ext hx⟩, h.2.2⟩
theorem Rows.mono {w : World} {base base' : Nat} {us : List Value} {xss : List (List Int)} (h : Rows w base us xss) (hb : base' ≤ base) : Rows w base' us xss :=
  ⟨h.1, fun r xs e => let ⟨u, a, b⟩ := h.2.1 r xs e; ⟨u, a, b.mono hb⟩, h.2.2⟩
theorem OwnM.ext {w w' : World} {base : Nat} {v : Value} {xss : List (List Int)} (h : OwnM w base v xss) (hx : Ext w w') : OwnM w' base v xss :=
  let ⟨us, a, b⟩ := h; ⟨us, a.ext hx, b.ext hx⟩
theorem OwnM.mono {w : World} {base base' : Nat} {v : Value} {xss : List (List Int)} (h : OwnM w base v xss) (hb : base' ≤ base) : OwnM w base' v xss :=
  let ⟨us, a, b⟩ := h; ⟨us, a.mono hb, b.mono hb⟩
theorem Rows.far {w w' : World} {base g : Nat} {us : List Value} {xss : List (List Int)} (h : Rows w base us xss) (hg : w.grownBy w' (some g)) (hb : g < base) : Rows w' base us xss :=
  ⟨h.1, fun r xs e => let ⟨u, a, b⟩ := h.2.1 r xs e; ⟨u, a, b.far hg (fun k hk hu => by cases hk; have := b.lo _ hu; omega)⟩, h.2.2⟩
theorem Rows.snoc {w : World} {base b0 : Nat} {us : List Value} {xss : List (List Int)} {u : Value} {xs : List Int} (h : Rows w base us xss) (hu : Own w b0 3 u (ints xs)) (hb : base ≤ b0)
    (hl : ∀ (v : Value), v ∈ us → ∀ k, v.ownBlock = some k → k < b0) : Rows w base (us ++ [u]) (xss ++ [xs]) := by
  refine ⟨by simp [h.1], fun r ys e => ?_, fun r s a b hrs ea eb k ha hb' => ?_⟩
  · rw [List.getElem?_append] at e
    split at e
    · rename_i hr
      obtain ⟨v, hv, k⟩ := h.2.1 r ys e
      exact ⟨v, by rw [List.getElem?_append_left (by rw [h.1]; exact hr)]; exact hv, k⟩
    · rename_i hr
      have : r = xss.length := by have := (List.getElem?_eq_some_iff.1 e).1; simp at this; omega
      subst this
      have e : xs = ys := by simpa using e
      subst e
      exact ⟨u, by rw [List.getElem?_append_right (by rw [h.1]; exact Nat.le_refl _)]; simp [h.1], hu.mono hb⟩
  · have hs : s < us.length + 1 := by have := (List.getElem?_eq_some_iff.1 eb).1; simpa using this
    have hr : r < us.length := by omega
    rw [List.getElem?_append_left hr] at ea
    by_cases hs2 : s < us.length
    · rw [List.getElem?_append_left hs2] at eb
      exact h.2.2 r s a b hrs ea eb k ha hb'
    · have : s = us.length := by omega
      subst this
      rw [List.getElem?_append_right (Nat.le_refl _)] at eb
      have e : u = b := by simpa using eb
      subst e
      have h1 := hu.lo k hb'
      have h2 := hl a (List.mem_of_getElem? ea) k ha
      omega
theorem Rows.lt {w : World} {base : Nat} {us : List Value} {xss : List (List Int)} (h : Rows w base us xss) : ∀ (v : Value), v ∈ us → ∀ k, v.ownBlock = some k → k < w.heap.size := by
  intro v hv k hk
  obtain ⟨r, hr, e⟩ := List.getElem_of_mem hv
  obtain ⟨u, hu, o⟩ := h.2.1 r (xss[r]'(by rw [← h.1]; exact hr)) (List.getElem?_eq_getElem _)
  rw [List.getElem?_eq_getElem hr, e] at hu
  cases hu
  exact (o.block k hk).2
structure Mid (us : List Value) (w w' : World) : Prop where
  os : w'.os = w.os
  tape : w'.tape = w.tape
  output : w'.output = w.output
  size : w.heap.size ≤ w'.heap.size
  block : ∀ i, i < w.heap.size → (∀ u ∈ us, u.ownBlock ≠ some i) → w'.heap[i]? = w.heap[i]?
theorem Mid.refl (us : List Value) (w : World) : Mid us w w := ⟨rfl, rfl, rfl, Nat.le_refl _, fun _ _ _ => rfl⟩
theorem Mid.step {us : List Value} {w w' w'' : World} {u : Value} (h : Mid us w w') (hg : w'.grownBy w'' u.ownBlock) (hu : u ∈ us) : Mid us w w'' :=
  ⟨hg.os.trans h.os, hg.tape.trans h.tape, hg.output.trans h.output, Nat.le_trans h.size hg.size, fun i hi hn => (hg.block i (Nat.lt_of_lt_of_le hi h.size) (fun e => hn u hu e.symm)).trans (h.block i hi hn)⟩
theorem Mid.ext {us : List Value} {w0 w w' : World} (h : Mid us w w') (hx : Ext w0 w) (hu : ∀ u ∈ us, ∀ k, u.ownBlock = some k → w0.heap.size ≤ k) : Ext w0 w' :=
  ⟨h.os.trans hx.os, h.tape.trans hx.tape, h.output.trans hx.output, Nat.le_trans hx.size h.size, fun i hi => (h.block i (Nat.lt_of_lt_of_le hi hx.size) (fun u hm e => by have := hu u hm i e; omega)).trans (hx.block i hi)⟩
theorem Own.same {w w' : World} {base : Nat} {e : TypeId} {v : Value} {xs : List Value} (h : Own w base e v xs) (hs : ∀ k, v.ownBlock = some k → w'.heap[k]? = w.heap[k]?) : Own w' base e v xs := by
  refine ⟨h.1, ?_⟩
  rcases h.2 with h | ⟨g, cap, cur, e1, h1, h2, h3⟩
  · exact .inl h
  · exact .inr ⟨g, cap, cur, e1, h1, by rw [hs g (by rw [e1]; rfl)]; exact h2, h3⟩
theorem Mid.own {us : List Value} {w w' : World} {base B : Nat} {e : TypeId} {v : Value} {xs : List Value} (h : Mid us w w') (o : Own w B e v xs) (hu : ∀ u ∈ us, ∀ k, u.ownBlock = some k → k < B) : Own w' B e v xs :=
  o.same fun k hk => h.block k (o.block k hk).2 fun u hm e => by have := hu u hm k e; have := o.lo k hk; omega
end Go.Proofs.YtdcipaaclpedhaaGreat.N
namespace Go.Proofs.YtdcipaaclpedhaaGreat.N
open Go.RowKit
def InN (n : Nat) (xs : List Int) : Prop := ∀ x ∈ xs, 0 ≤ x ∧ x < (n : Int)
instance (n : Nat) (xs : List Int) : Decidable (InN n xs) := by unfold InN; infer_instance
def RowN (n : Nat) (xs : List Int) : Prop := xs.length = n ∧ InN n xs
instance (n : Nat) (xs : List Int) : Decidable (RowN n xs) := by unfold RowN; infer_instance
def Tab (xss : List (List Int)) : Prop := (1 ≤ xss.length ∧ xss.length ≤ 4) ∧ ∀ xs ∈ xss, RowN xss.length xs
instance (xss : List (List Int)) : Decidable (Tab xss) := by unfold Tab; infer_instance
theorem l1In_calls (x lo hi : Int) (w : World) :
    Calls Tryz.prog 35 #[.int .i64 x, .int .i64 lo, .int .i64 hi] w fun e w' => e = .returned (.bool (decide (lo ≤ x ∧ x ≤ hi))) ∧ w = w' := by
  by_cases h1 : lo ≤ x
  · by_cases h2 : x ≤ hi
    · rw [decide_eq_true ⟨h1, h2⟩]
      go_enter Tryz.func35, Tryz.ntmps35
      go_wp2_with fail
      go_ret
      exact ⟨rfl, rfl⟩
    · rw [decide_eq_false (fun h => h2 h.2)]
      go_enter Tryz.func35, Tryz.ntmps35
      go_wp2_with fail
      go_ret
      exact ⟨rfl, rfl⟩
  · rw [decide_eq_false (fun h => h1 h.1)]
    go_enter Tryz.func35, Tryz.ntmps35
    go_wp2_with fail
    go_ret
    exact ⟨rfl, rfl⟩
def InI (lo hi : Int) (xs : List Int) : Prop := ∀ x ∈ xs, lo ≤ x ∧ x ≤ hi
instance (lo hi : Int) (xs : List Int) : Decidable (InI lo hi xs) := by unfold InI; infer_instance
end Go.Proofs.YtdcipaaclpedhaaGreat.N
namespace Go.Proofs.YtdcipaaclpedhaaGreat.N
open Go.RowKit
theorem infoStr : (Tryz.prog.info? 9).map (fun i => (i.zero, i.size, i.bytes)) = some (some (.string ⟨#[]⟩), 1, 16) := by kernel_rfl
def sls (xs : List (List UInt8)) : List Value := xs.map fun s => .string (S s)
theorem sls_length (xs : List (List UInt8)) : (sls xs).length = xs.length := by simp [sls]
theorem sls_append (xs ys : List (List UInt8)) : sls xs ++ sls ys = sls (xs ++ ys) := by simp [sls]
theorem sls_one (xs : List (List UInt8)) : ∀ u ∈ sls xs, u.oneCell' = true := by
  intro u hu; obtain ⟨s, _, rfl⟩ := List.mem_map.1 hu; rfl
def GivesS (w : World) (xs : List (List UInt8)) (e : Ending) (w' : World) : Prop := ∃ v, e = .returned v ∧ Own w' w.heap.size 9 v (sls xs) ∧ Ext w w'
end Go.Proofs.YtdcipaaclpedhaaGreat.N
namespace Go.Proofs.YtdcipaaclpedhaaGreat.N
open Go.RowKit
theorem one_byte (l : List UInt8) (j : Nat) (c : UInt8) (h : l[j]? = some c) : (S l).extract j (j + 1) = S [c] := by
  obtain ⟨h1, h2⟩ := List.getElem?_eq_some_iff.1 h
  rw [S_extract, List.take_add_one, h, List.drop_append]
  simp [List.length_take, Nat.min_eq_left (Nat.le_of_lt h1)]
set_option maxHeartbeats 3200000 in
set_option maxRecDepth 100000 in
theorem prFill_calls (l : List UInt8) (ps : List ByteArray) (hl : l.length < 1000000) (hp : ps.length < 1000000) (hd : dots l ≤ ps.length) (hb : ∀ p ∈ ps, p.size ≤ 100000) (v : Value) (w : World) (hv : Reads w v (strs ps)) :
    Calls Tryz.prog 51 #[.string (S l), v] w fun e w' => e = .returned (.string (S (fillP l ps))) ∧ w = w' := by
  obtain ⟨A, cp, rfl, _, rd⟩ := hv
  rw [strs_length] at *
  have RD := Lib.hid rd
  have HD := Lib.hid (And.intro hd hb)
  clear rd hd hb
  go_enter Tryz.func51, Tryz.ntmps51
  go_wp2_with fail
  go_loop [5, 6, 7] (fun o n i => ∃ (j k : Nat) (acc : List UInt8), j ≤ l.length ∧ k ≤ j ∧ i = .int .i64 j ∧ n = .int .i64 k ∧ o = .string (S acc) ∧ Hid (k = dots (l.take j)) ∧ Hid (acc.length ≤ j * 100001) ∧ Hid (fillP l ps = acc ++ fillP (l.drop j) (ps.drop k))) (fun _ _ i => l.length - (intOf i).toNat)
  case atStart => exact ⟨0, 0, [], Nat.zero_le _, Nat.le_refl _, rfl, rfl, rfl, rfl, Nat.zero_le _, rfl⟩
  case round =>
    obtain ⟨j, k, acc, hj, hk, rfl, rfl, rfl, HK, HA, HF⟩ := hrel
    by_cases hlt : j < l.length
    · obtain ⟨c, hc⟩ : ∃ c, l[j]? = some c := ⟨_, List.getElem?_eq_getElem hlt⟩
      have h1 : (j : Int) < (S l).size := by show (j : Int) < (l.length : Nat); omega
      have h0 : (0 : Int) ≤ j := by omega
      obtain ⟨x1, x2⟩ := s_at (S l) j c (by rw [S_toList]; exact hc)
      have ST : dots (l.take (j + 1)) = dots (l.take j) + if c = 46 then 1 else 0 := by
        rw [List.take_add_one, hc]; simp [dots, List.countP_append, List.countP_cons]
      by_cases c1 : c = 46
      · subst c1
        have hk2 : k < ps.length := by rw [HK.out]; exact Nat.lt_of_lt_of_le (dots_lt l j hc) HD.out.1
        obtain ⟨ad, rfl, ca⟩ := RD.out (by omega)
        have c1 := ca k _ (strs_get ps k hk2)
        have F2 := Lib.hid (fill_step_dot l ps j k hc hk2)
        have PB := Lib.hid (HD.out.2 ps[k] (List.getElem_mem hk2))
        have t1 : (((46 : UInt8).toNat : Int) == 46) = true := rfl
        have k1 : (k : Int) < ps.length := by omega
        have k0 : (0 : Int) ≤ k := by omega
        have HK2 : Hid (k + 1 = dots (l.take (j + 1))) := by show _ = _; rw [ST, ← HK.out]; rfl
        generalize ps[k] = p at *
        have g4 : (9223372036854775807 < (S acc).size + p.size) = False := by rw [S_size]; have := HA.out; have := PB.out; simp; omega
        have EA : Hid (S acc ++ p = S (acc ++ p.toList)) := by show _ = _; rw [← S_append, ← S_of]
        have LA : Hid ((acc ++ p.toList).length ≤ (j + 1) * 100001) := by
          have := HA.out; have := PB.out
          show _ ≤ _
          rw [List.length_append, s_len]; omega
        have FF : Hid (fillP l ps = (acc ++ p.toList) ++ fillP (l.drop (j + 1)) (ps.drop (k + 1))) := by show _ = _; rw [HF.out, F2.out, List.append_assoc]
        clear hc ca ST F2 PB
        go_wp2_with fail
        rw [EA.out]
        exact ⟨⟨j + 1, k + 1, acc ++ p.toList, by omega, by omega, by go_num, by go_num, rfl, HK2.out, LA.out, FF.out⟩, by simp [intOf]; omega⟩
      · have t1 : ((c.toNat : Int) == 46) = false := byte_ne c1
        have F2 := Lib.hid (fill_step_other l ps j k c hc c1)
        have OB := one_byte l j c hc
        have HK2 : Hid (k = dots (l.take (j + 1))) := by show _ = _; rw [ST, ← HK.out, if_neg c1]; rfl
        have g4 : (9223372036854775807 < (S acc).size + 1) = False := by rw [S_size]; have := HA.out; simp; omega
        have g5 : (9223372036854775807 < (S acc).size + (S [c]).size) = False := by rw [S_size, S_size]; have := HA.out; simp; omega
        have EA : Hid (S acc ++ S [c] = S (acc ++ [c])) := S_append _ _
        have LA : Hid ((acc ++ [c]).length ≤ (j + 1) * 100001) := by
          have := HA.out
          show _ ≤ _
          rw [List.length_append]; simp; omega
        have FF : Hid (fillP l ps = (acc ++ [c]) ++ fillP (l.drop (j + 1)) (ps.drop k)) := by show _ = _; rw [HF.out, F2.out, List.append_assoc]; rfl
        clear hc ST F2 c1
        go_wp2_with fail
        rw [EA.out]
        exact ⟨⟨j + 1, k, acc ++ [c], by omega, by omega, by go_num, by go_num, rfl, HK2.out, LA.out, FF.out⟩, by simp [intOf]; omega⟩
    · have h1 : ((S l).size : Int) ≤ j := by show ((l.length : Nat) : Int) ≤ j; omega
      have E : Hid (fillP l ps = acc) := by show _ = _; rw [HF.out, List.drop_eq_nil_of_le (by omega)]; simp [fillP]
      go_wp2_with fail
      go_ret
      exact ⟨by rw [E.out]; rfl, rfl⟩
end Go.Proofs.YtdcipaaclpedhaaGreat.N
namespace Go.Proofs.YtdcipaaclpedhaaGreat.N
open Go.RowKit
set_option maxHeartbeats 3200000 in
set_option maxRecDepth 100000 in
theorem trExposed_calls (l : List UInt8) (hl : l.length < 1000000) (w : World) :
    Calls Tryz.prog 87 #[.string (S l)] w (GivesN w (exS false l 0)) := by
  go_enter Tryz.func87, Tryz.ntmps87
  go_wp2_with fail
  go_loopw [3, 4, 5] (fun o n i wr => ∃ (j k : Nat) (acc : List Nat), j ≤ l.length ∧ k ≤ j ∧ i = .int .i64 j ∧ n = .int .i64 k ∧ Hid (acc.length ≤ j ∧ exS false l 0 = acc ++ exS (prev l j) (l.drop j) k) ∧ Hid (Own wr w.heap.size 3 o (nats acc)) ∧ Hid (Ext w wr)) (fun _ _ i _ => l.length - (intOf i).toNat)
  case atStart => exact ⟨0, 0, [], Nat.zero_le _, Nat.le_refl _, rfl, rfl, ⟨Nat.le_refl _, rfl⟩, Own.nil _ _ _, Ext.refl _⟩
  case round =>
    obtain ⟨j, k, acc, hj, hk, rfl, rfl, HE, HO, HX⟩ := hrel
    by_cases hlt : j < l.length
    · obtain ⟨c, hc⟩ : ∃ c, l[j]? = some c := ⟨_, List.getElem?_eq_getElem hlt⟩
      have ST := exS_step l j k c hc
      have TE := ex_test l j hlt
      have h1 : (j : Int) < (S l).size := by show (j : Int) < (l.length : Nat); omega
      have h0 : (0 : Int) ≤ j := by omega
      obtain ⟨x1, x2⟩ := s_at (S l) j c (by rw [S_toList]; exact hc)
      have SE : Hid ((S l).extract (j - 1) (j + 3) = S ((l.take (j + 3)).drop (j - 1))) := S_extract l (j - 1) (j + 3)
      have SZ : Hid ((S l).size = l.length) := rfl
      have KT : Hid ((if c = 46 then k + 1 else k) ≤ j + 1) := by show _ ≤ _; split <;> omega
      by_cases hT : 0 < j ∧ j + 2 < l.length ∧ (l.take (j + 3)).drop (j - 1) = [40, 46, 46, 41]
      · have hcc : c = 46 := by
          have e1 : (l.take (j + 3)).drop (j - 1) = (l.drop (j - 1)).take 4 := by rw [List.drop_take]; congr 1; omega
          have e2 : ((l.take (j + 3)).drop (j - 1))[1]? = some 46 := by rw [hT.2.2]; rfl
          rw [e1, List.getElem?_take_of_lt (by omega), List.getElem?_drop, show j - 1 + 1 = j from by omega, hc] at e2
          exact Option.some.inj e2
        subst hcc
        have HE2 : Hid ((acc ++ [k]).length ≤ j + 1 ∧ exS false l 0 = (acc ++ [k]) ++ exS (prev l (j + 1)) (l.drop (j + 1)) (k + 1)) := by
          refine ⟨by simp; exact HE.out.1, ?_⟩
          rw [HE.out.2, ST, TE, decide_eq_true hT, List.append_assoc]; rfl
        have t1 : (0 : Int) < j := by omega
        have t2 : (j : Int) + 2 < (S l).size := by rw [SZ.out]; omega
        have t3 : (((S l).extract (j - 1) (j + 3)).toList == [40, 46, 46, 41]) = true := by rw [SE.out, S_toList, hT.2.2]; rfl
        have t4 : (((46 : UInt8).toNat : Int) == 46) = true := rfl
        have RL := Lib.hid (Own.lit wr 0 3 #[.int .i64 k] (Nat.zero_le _) (by show 1 ≤ maxLen; decide)).reads
        have O2 := HO.out.ext ((Ext.refl _).alloc (.cells #[.int .i64 k] 3))
        have LL : Hid (((nats acc).length + (nats [k]).length) * 8 ≤ 140737488355328) := by show _ ≤ _; rw [nats_length, nats_length]; have := HE.out.1; show (_ + 1) * 8 ≤ _; omega
        have B1 := Lib.hid (HX.out.alloc (.cells #[.int .i64 k] 3)).size
        clear hc ST TE hT
        go_wp2_with (at_builtin; refine wpList_app rfl (.tmp 30) (.tmp 32) 49 rfl w.heap.size 3 (.int .i64 0) 8 Tryz.underlying49 infoInt rfl (by omega) _ _ _ (nats [k]) rfl rfl O2 RL.out (nats_one _) LL.out B1.out ?_; intro v4 w4 o4 g4 _)
        have X4 := Lib.hid ((HX.out.alloc _).grown g4 O2.lo)
        rw [nats_append] at o4
        have O4 := Lib.hid o4
        clear o4 g4 O2
        go_wp2_with fail
        exact ⟨⟨j + 1, k + 1, acc ++ [k], by omega, by omega, by go_num, by go_num, HE2.out, O4.out, X4.out⟩, by simp [intOf]; omega⟩
      · have HE2 : Hid (acc.length ≤ j + 1 ∧ exS false l 0 = acc ++ exS (prev l (j + 1)) (l.drop (j + 1)) (if c = 46 then k + 1 else k)) := by
          refine ⟨by have := HE.out.1; omega, ?_⟩
          rw [HE.out.2, ST, TE, decide_eq_false hT]; rfl
        have TT : (0 < j → j + 2 < l.length → (((S l).extract (j - 1) (j + 3)).toList == [40, 46, 46, 41]) = false) := by
          intro a b
          rw [SE.out, S_toList, beq_eq_false_iff_ne]
          exact fun e => hT ⟨a, b, e⟩
        clear hc ST TE hT
        rcases Nat.eq_zero_or_pos j with q0 | q0
        · subst q0
          clear TT
          by_cases c1 : c = 46
          · have t1 : ((c.toNat : Int) == 46) = true := by subst c1; rfl
            have HE3 := Lib.hid (by have := HE2.out; rw [if_pos c1] at this; exact this)
            clear c1
            go_wp2_with fail
            exact ⟨⟨0 + 1, k + 1, acc, by omega, by omega, by go_num, by go_num, HE3.out, HO.out, HX.out⟩, by simp [intOf]; omega⟩
          · have t1 : ((c.toNat : Int) == 46) = false := byte_ne c1
            have HE3 := Lib.hid (by have := HE2.out; rw [if_neg c1] at this; exact this)
            clear c1
            go_wp2_with fail
            exact ⟨⟨0 + 1, k, acc, by omega, by omega, by go_num, by go_num, HE3.out, HO.out, HX.out⟩, by simp [intOf]; omega⟩
        · have t2 : (0 : Int) < j := by omega
          by_cases q1 : j + 2 < l.length
          · have t3 : (j : Int) + 2 < (S l).size := by rw [SZ.out]; omega
            have t4 := TT q0 q1
            clear TT
            by_cases c1 : c = 46
            · have t1 : ((c.toNat : Int) == 46) = true := by subst c1; rfl
              have HE3 := Lib.hid (by have := HE2.out; rw [if_pos c1] at this; exact this)
              clear c1
              go_wp2_with fail
              exact ⟨⟨j + 1, k + 1, acc, by omega, by omega, by go_num, by go_num, HE3.out, HO.out, HX.out⟩, by simp [intOf]; omega⟩
            · have t1 : ((c.toNat : Int) == 46) = false := byte_ne c1
              have HE3 := Lib.hid (by have := HE2.out; rw [if_neg c1] at this; exact this)
              clear c1
              go_wp2_with fail
              exact ⟨⟨j + 1, k, acc, by omega, by omega, by go_num, by go_num, HE3.out, HO.out, HX.out⟩, by simp [intOf]; omega⟩
          · have t3 : ¬ (j : Int) + 2 < (S l).size := by rw [SZ.out]; omega
            have t4 : ((S l).size : Int) ≤ (j : Int) + 2 := by omega
            clear TT
            by_cases c1 : c = 46
            · have t1 : ((c.toNat : Int) == 46) = true := by subst c1; rfl
              have HE3 := Lib.hid (by have := HE2.out; rw [if_pos c1] at this; exact this)
              clear c1
              go_wp2_with fail
              exact ⟨⟨j + 1, k + 1, acc, by omega, by omega, by go_num, by go_num, HE3.out, HO.out, HX.out⟩, by simp [intOf]; omega⟩
            · have t1 : ((c.toNat : Int) == 46) = false := byte_ne c1
              have HE3 := Lib.hid (by have := HE2.out; rw [if_neg c1] at this; exact this)
              clear c1
              go_wp2_with fail
              exact ⟨⟨j + 1, k, acc, by omega, by omega, by go_num, by go_num, HE3.out, HO.out, HX.out⟩, by simp [intOf]; omega⟩
    · have h1 : ((S l).size : Int) ≤ j := by show ((l.length : Nat) : Int) ≤ j; omega
      have HE2 : Hid (exS false l 0 = acc) := by
        show _ = _
        rw [HE.out.2, List.drop_eq_nil_of_le (by omega)]; simp [exS]
      go_wp2_with fail
      go_ret
      exact ⟨_, rfl, HE2.out.symm ▸ HO.out, HX.out⟩
theorem dots_snoc (l : List UInt8) (c : UInt8) : dots (l ++ [c]) = dots l + if c = 46 then 1 else 0 := by
  simp [dots, List.countP_append, List.countP_cons]
theorem dots_le (l : List UInt8) : dots l ≤ l.length := List.countP_le_length
set_option maxHeartbeats 3200000 in
set_option maxRecDepth 100000 in
theorem trDrop_calls (a b : List UInt8) (hl : a.length + b.length < 1000000) (w : World) :
    Calls Tryz.prog 65 #[.string (S (a ++ 40 :: 46 :: 46 :: 41 :: b)), .int .i64 (dots a)] w fun e w' => e = .returned (.string (S (a ++ 46 :: b))) ∧ ∃ n, w' = w.drewN n := by
  have LN : Hid ((a ++ 40 :: 46 :: 46 :: 41 :: b).length = a.length + b.length + 4) := by simp [Hid]; omega
  have E1 : Hid ((a ++ 40 :: 46 :: 46 :: 41 :: b).take a.length = a) := by simp [Hid]
  have E2 : Hid ((a ++ 40 :: 46 :: 46 :: 41 :: b).drop (a.length + 4) = b) := by
    show _ = _
    rw [List.drop_append, List.drop_eq_nil_of_le (by omega), show a.length + 4 - a.length = 4 from by omega]; rfl
  have D1 : Hid (dots ((a ++ 40 :: 46 :: 46 :: 41 :: b).take (a.length + 1)) = dots a) := by
    show _ = _
    rw [List.take_append, show a.length + 1 - a.length = 1 from by omega, List.take_of_length_le (by omega)]
    simp [dots, List.countP_append]
  have G1 : Hid (∀ j, j < a.length → (a ++ 40 :: 46 :: 46 :: 41 :: b)[j]? = some 46 → dots ((a ++ 40 :: 46 :: 46 :: 41 :: b).take j) < dots a) := by
    intro j hj h
    rw [List.getElem?_append_left hj] at h
    rw [List.take_append_of_le_length (by omega)]
    have h2 : a = a.take j ++ 46 :: a.drop (j + 1) := by
      have h3 := List.take_append_drop j a
      have h4 : a.drop j = a[j] :: a.drop (j + 1) := List.drop_eq_getElem_cons hj
      rw [h4] at h3
      rw [List.getElem?_eq_getElem hj] at h
      rw [Option.some.inj h] at h3
      exact h3.symm
    have h5 : dots a = dots (a.take j) + dots (46 :: a.drop (j + 1)) := by rw [← dots_app, ← h2]
    have h6 : dots (46 :: a.drop (j + 1)) = dots (a.drop (j + 1)) + 1 := by simp [dots]
    omega
  have G2 : Hid ((a ++ 40 :: 46 :: 46 :: 41 :: b)[a.length]? = some 40) := by simp [Hid]
  have G3 : Hid ((a ++ 40 :: 46 :: 46 :: 41 :: b)[a.length + 1]? = some 46) := by
    show _ = _
    rw [List.getElem?_append_right (by omega), show a.length + 1 - a.length = 1 from by omega]; rfl
  have RS : Hid ((S a ++ ⟨#[46]⟩) ++ S b = S (a ++ 46 :: b)) := by
    show (S a ++ S [46]) ++ S b = _
    rw [S_append, S_append]; simp
  have DK := dots_le a
  generalize (a ++ 40 :: 46 :: 46 :: 41 :: b) = l at *
  generalize hk : dots a = k at *
  go_enter Tryz.func65, Tryz.ntmps65
  go_wp2_with fail
  go_loop [5, 6] (fun n i => ∃ j : Nat, j ≤ a.length + 1 ∧ i = .int .i64 j ∧ n = .int .i64 (dots (l.take j))) (fun _ i => a.length + 2 - (intOf i).toNat)
  case atStart => exact ⟨0, Nat.zero_le _, rfl, rfl⟩
  case round =>
    obtain ⟨j, hj, rfl, rfl⟩ := hrel
    have b1 := dots_le (l.take j)
    have b2 : (l.take j).length ≤ j := List.length_take_le _ _
    have b3 : (0 : Int) ≤ dots (l.take j) ∧ (dots (l.take j) : Int) ≤ j := by omega
    clear b1 b2
    have hlt : j < l.length := by rw [LN.out]; omega
    obtain ⟨c, hc⟩ : ∃ c, l[j]? = some c := ⟨_, List.getElem?_eq_getElem hlt⟩
    have ST : dots (l.take (j + 1)) = dots (l.take j) + if c = 46 then 1 else 0 := by
      rw [List.take_add_one, hc]; exact dots_snoc _ _
    obtain ⟨x1, x2⟩ := s_at (S l) j c (by rw [S_toList]; exact hc)
    have h1 : (j : Int) < (S l).size := by show (j : Int) < (l.length : Nat); omega
    have h0 : (0 : Int) ≤ j := by omega
    by_cases hl2 : j = a.length + 1
    · obtain rfl : c = 46 := by rw [hl2, G3.out] at hc; exact (Option.some.inj hc).symm
      have DD : dots (l.take j) = k := by rw [hl2]; exact D1.out
      rw [DD]
      have t1 : (((46 : UInt8).toNat : Int) == 46) = true := rfl
      have SZ : Hid ((S l).size = a.length + b.length + 4) := LN.out
      have F1 : (S l).extract 0 (j - 1) = S a := by rw [S_extract, hl2, Nat.add_sub_cancel, E1.out]; rfl
      have F2 : (S l).extract (j + 3) (S l).size = S b := by
        rw [S_extract, S_size, List.take_of_length_le (Nat.le_refl _), hl2, E2.out]
      have g1 : (j : Int) + 3 ≤ (S l).size := by rw [SZ.out]; omega
      have g2 : (j : Int) < 1000001 := by omega
      have g3 : (1 : Int) ≤ j := by omega
      have g4 : (9223372036854775807 < (S a).size + 1) = False := by rw [S_size]; simp; omega
      have g5 : (9223372036854775807 < (S a).size + 1 + (S b).size) = False := by rw [S_size, S_size]; simp; omega
      clear ST hc hl2 DD
      go_wp2_with fail
      go_region
      go_wp2_with fail
      go_ret
      exact ⟨by rw [RS.out]; rfl, 1, rfl⟩
    · by_cases c1 : c = 46
      · have hj2 : j < a.length := by
          rcases Nat.lt_or_ge j a.length with h | h
          · exact h
          · have e : j = a.length := by omega
            rw [e, G2.out, c1] at hc
            cases hc
        have hlt2 := G1.out j hj2 (by rw [hc, c1])
        have t1 : ((c.toNat : Int) == 46) = true := by subst c1; rfl
        have t2 : (((dots (l.take j) : Nat) : Int) == (k : Int)) = false := by rw [beq_eq_false_iff_ne]; omega
        rw [if_pos c1] at ST
        have ST := Lib.hid ST
        clear c1 hc hlt2
        go_wp2_with fail
        exact ⟨⟨j + 1, by omega, by go_num, by rw [ST.out]; go_num⟩, by simp [intOf]; omega⟩
      · have t1 : ((c.toNat : Int) == 46) = false := byte_ne c1
        rw [if_neg c1] at ST
        have ST := Lib.hid ST
        clear c1 hc
        go_wp2_with fail
        exact ⟨⟨j + 1, by omega, by go_num, by rw [ST.out]; go_num⟩, by simp [intOf]; omega⟩
theorem trDrop_tree (T : Tr) (k : Nat) (hk : k ∈ expo T 0) (hT : T.carets < 1000) (w : World) :
    Calls Tryz.prog 65 #[.string (tx T), .int .i64 k] w fun e w' => e = .returned (.string (tx (without T k))) ∧ ∃ n, w' = w.drewN n := by
  obtain ⟨a, b, e1, e2, e3⟩ := drop_txt T k hk
  have hl := T.txt_length
  rw [e1] at hl
  simp at hl
  rw [tx, tx, e1, e2, ← e3]
  exact trDrop_calls a b (by omega) w
set_option maxHeartbeats 1600000 in
theorem l1Has_calls (xs : List Int) (n : Int) (hl : xs.length < 100000000) (v : Value) (w : World) (hv : Reads w v (ints xs)) :
    Calls Tryz.prog 88 #[v, .int .i64 n] w fun e w' => e = .returned (.bool (decide (n ∈ xs))) ∧ w = w' := by
  obtain ⟨A, c, rfl, _, rd⟩ := hv
  rw [ints_length] at *
  have RD := Lib.hid rd
  clear rd
  go_enter Tryz.func88, Tryz.ntmps88
  go_wp2_with fail
  go_loop [9] (fun i => ∃ k : Nat, k ≤ xs.length ∧ i = .int .i64 k ∧ Hid ((n ∈ xs) ↔ (n ∈ xs.drop k))) (fun i => xs.length - (intOf i).toNat)
  case atStart => exact ⟨0, Nat.zero_le _, rfl, Iff.rfl⟩
  case round =>
    obtain ⟨k, hk, rfl, HI⟩ := hrel
    by_cases hlt : k < xs.length
    · obtain ⟨ad, rfl, ca⟩ := RD.out (by omega)
      have c1 := ca k _ (ints_get xs k hlt)
      have h0 : (0 : Int) ≤ k := by omega
      have h1 : (k : Int) < xs.length := by omega
      have HD : Hid (xs.drop k = xs[k] :: xs.drop (k + 1)) := List.drop_eq_getElem_cons hlt
      clear ca
      by_cases hx : xs[k] = n
      · have HE : Hid (decide (n ∈ xs) = true) := by show _ = _; rw [decide_eq_true_eq, HI.out, HD.out, hx]; exact List.mem_cons_self
        rw [hx] at c1
        clear hx HD
        go_wp2
        go_ret
        exact ⟨by rw [HE.out]; rfl, rfl⟩
      · have HE : Hid ((n ∈ xs) ↔ (n ∈ xs.drop (k + 1))) := by
          show _ ↔ _
          rw [HI.out, HD.out, List.mem_cons]
          exact ⟨fun h => h.resolve_left (fun e => hx e.symm), .inr⟩
        have t1 : (xs[k] == n) = false := by rw [beq_eq_false_iff_ne]; exact hx
        clear hx HD
        generalize xs[k] = x at *
        go_wp2
        exact ⟨⟨k + 1, by omega, by go_num, HE.out⟩, by simp [intOf]; omega⟩
    · have h1 : (xs.length : Int) ≤ k := by omega
      have HE : Hid (decide (n ∈ xs) = false) := by show _ = _; rw [decide_eq_false_iff_not, HI.out, List.drop_eq_nil_of_le (by omega)]; simp
      go_wp2
      go_ret
      exact ⟨by rw [HE.out]; rfl, rfl⟩
set_option maxHeartbeats 3200000 in
set_option maxRecDepth 100000 in
theorem prBoth_calls (A B : Tr) (hA : A.carets < 1000) (hB : B.carets < 1000) (w : World) :
    Calls Tryz.prog 64 #[.agg #[.string (tx A), .string (tx B)]] w (GivesN w (bothT A B)) := by
  have X0 := Lib.hid ((Ext.refl w).alloc (.cells #[.string (tx A), .string (tx B)] 25))
  have C1 := Lib.hid (fun W => trExposed_calls B.txt (by have := B.txt_length; omega) W)
  have C2 := Lib.hid (fun W => trExposed_calls A.txt (by have := A.txt_length; omega) W)
  rw [exS_txt] at C1 C2
  have LA := expo_length A 0
  have LB := expo_length B 0
  have EB : Hid (bothT A B = (expo A 0).filter fun k => (expo B 0).contains k) := rfl
  have LA' : (expo A 0).length < 10000000 := by omega
  have LB' : (expo B 0).length < 10000000 := by omega
  clear LA LB hA hB
  generalize expo A 0 = fa at *
  generalize expo B 0 = fb at *
  go_enter Tryz.func64, Tryz.ntmps64
  go_wp2_with fail
  refine (C1.out _).mono ?_
  rintro e w1 ⟨v1, rfl, o1, x1⟩
  have O1 := Lib.hid o1
  have X1 := Lib.hid (X0.out.trans x1)
  have h1 : w1.cell? ⟨w.heap.size, 0, none⟩ = some (.string (tx A)) := x1.cell (by go_simp)
  clear o1 x1
  go_wp2_with fail
  refine (C2.out _).mono ?_
  rintro e w2 ⟨v2, rfl, o2, x2⟩
  obtain ⟨A2, c2, rfl, _, rd2⟩ := o2.reads
  rw [nats_length] at rd2 ⊢
  have RD := Lib.hid rd2
  have R1 := Lib.hid (O1.out.reads.ext x2)
  have X2 := Lib.hid (X1.out.trans x2)
  clear rd2 o2 x2 h1 O1
  go_wp2_with fail
  go_loopw [3, 14] (fun o i wr => ∃ k : Nat, k ≤ fa.length ∧ i = .int .i64 k ∧ Hid (Own wr w2.heap.size 3 o (nats ((fa.take k).filter fun k => fb.contains k))) ∧ Hid (Ext w2 wr)) (fun _ i _ => fa.length - (intOf i).toNat)
  case atStart => exact ⟨0, Nat.zero_le _, rfl, Own.nil _ _ _, Ext.refl _⟩
  case round =>
    obtain ⟨k, hk, rfl, HO, HX⟩ := hrel
    by_cases hlt : k < fa.length
    · obtain ⟨ad, rfl, ca⟩ := RD.out (by omega)
      have c1 := HX.out.cell (ca k _ (nats_get fa k hlt))
      have h0 : (0 : Int) ≤ k := by omega
      have h1 : (k : Int) < fa.length := by omega
      have FT := Lib.hid (filter_take (fun k => fb.contains k) fa k hlt)
      have LT : Hid (((fa.take k).filter fun k => fb.contains k).length ≤ k) := Nat.le_trans (List.length_filter_le _ _) (List.length_take_le _ _)
      clear ca
      generalize fa[k] = x at *
      have CC := Lib.hid (l1Has_calls (fb.map fun (n : Nat) => (n : Int)) x (by simp; omega) v1 wr (R1.out.ext HX.out))
      have DM : Hid (decide ((x : Int) ∈ fb.map fun (n : Nat) => (n : Int)) = fb.contains x) := by show _ = _; rw [Bool.eq_iff_iff, decide_eq_true_eq, mem_cast]; simp
      cases hc : fb.contains x with
      | false =>
        have FT2 : Hid ((fa.take (k + 1)).filter (fun k => fb.contains k) = (fa.take k).filter (fun k => fb.contains k)) := Lib.hid (by have := FT.out; rw [hc] at this; simpa using this)
        have D2 : Hid (decide ((x : Int) ∈ fb.map fun (n : Nat) => (n : Int)) = false) := Lib.hid (DM.out.trans hc)
        clear hc
        go_wp2_with fail
        refine CC.out.mono ?_
        rw [D2.out]
        rintro e w3 ⟨rfl, rfl⟩
        go_wp2_with fail
        exact ⟨⟨k + 1, by omega, by go_num, FT2.out.symm ▸ HO.out, HX.out⟩, by simp [intOf]; omega⟩
      | true =>
        have FT2 : Hid ((fa.take (k + 1)).filter (fun k => fb.contains k) = (fa.take k).filter (fun k => fb.contains k) ++ [x]) := Lib.hid (by have := FT.out; rw [hc] at this; simpa using this)
        have D2 : Hid (decide ((x : Int) ∈ fb.map fun (n : Nat) => (n : Int)) = true) := Lib.hid (DM.out.trans hc)
        have RL := Lib.hid (Own.lit wr 0 3 #[.int .i64 x] (Nat.zero_le _) (by show 1 ≤ maxLen; decide)).reads
        have O2 := HO.out.ext ((Ext.refl _).alloc (.cells #[.int .i64 x] 3))
        have LL : Hid (((nats ((fa.take k).filter fun k => fb.contains k)).length + (nats [x]).length) * 8 ≤ 140737488355328) := by show _ ≤ _; rw [nats_length, nats_length]; have := LT.out; show (_ + 1) * 8 ≤ _; omega
        have B1 := Lib.hid (HX.out.alloc (.cells #[.int .i64 x] 3)).size
        clear hc
        go_wp2_with fail
        refine CC.out.mono ?_
        rw [D2.out]
        rintro e w3 ⟨rfl, rfl⟩
        go_wp2_with (at_builtin; refine wpList_app rfl (.tmp 21) (.tmp 23) 49 rfl w2.heap.size 3 (.int .i64 0) 8 Tryz.underlying49 infoInt rfl (by omega) _ _ _ (nats [x]) rfl rfl O2 RL.out (nats_one _) LL.out B1.out ?_; intro v4 w4 o4 g4 _)
        have X4 := Lib.hid ((HX.out.alloc _).grown g4 O2.lo)
        rw [nats_append] at o4
        have O4 := Lib.hid o4
        clear o4 g4 O2
        go_wp2_with fail
        exact ⟨⟨k + 1, by omega, by go_num, FT2.out.symm ▸ O4.out, X4.out⟩, by simp [intOf]; omega⟩
    · have h1 : (fa.length : Int) ≤ k := by omega
      have E : Hid (fa.take k = fa) := List.take_of_length_le (by omega)
      go_wp2_with fail
      go_ret
      refine ⟨_, rfl, ?_, X2.out.trans HX.out⟩
      rw [EB.out]
      exact (E.out ▸ HO.out).mono X2.out.size
end Go.Proofs.YtdcipaaclpedhaaGreat.N
namespace Go.Proofs.YtdcipaaclpedhaaGreat.N
open Go.RowKit
def TabR (w : World) (v : Value) (n : Nat) (g : Nat → Nat → Nat) : Prop :=
  ∃ (ad : Addr) (c : Nat) (bd : Nat → Addr) (cc : Nat → Nat), v = .slice (some ad) n c ∧ (∀ i, i < n → w.cell? (ad.add i) = some (.slice (some (bd i)) n (cc i))) ∧ ∀ i j, i < n → j < n → w.cell? ((bd i).add j) = some (.int .i64 (g i j))
theorem TabR.ext {w w' : World} {v : Value} {n : Nat} {g : Nat → Nat → Nat} (h : TabR w v n g) (hx : Ext w w') : TabR w' v n g := by
  obtain ⟨ad, c, bd, cc, e, h1, h2⟩ := h
  exact ⟨ad, c, bd, cc, e, fun i hi => hx.cell (h1 i hi), fun i j hi hj => hx.cell (h2 i j hi hj)⟩
def gOf (xss : List (List Int)) (i j : Nat) : Nat := ((xss.getD i []).getD j 0).toNat
theorem gOf_at {xss : List (List Int)} (h : Tab xss) {i j : Nat} {xs : List Int} (hi : xss[i]? = some xs) (hj : j < xss.length) : xs[j]? = some (gOf xss i j : Int) ∧ gOf xss i j < xss.length := by
  have hr := h.2 xs (List.mem_of_getElem? hi)
  have hl : j < xs.length := by rw [hr.1]; exact hj
  have e : xs[j]? = some xs[j] := List.getElem?_eq_getElem hl
  have hb := hr.2 _ (List.mem_of_getElem? e)
  have eg : gOf xss i j = xs[j].toNat := by
    unfold gOf
    rw [show xss.getD i [] = xs from by rw [List.getD_eq_getElem?_getD, hi]; rfl, List.getD_eq_getElem?_getD, e]
    rfl
  rw [eg, e]
  refine ⟨?_, by omega⟩
  congr 1
  omega
theorem ReadsM.tab {w : World} {v : Value} {xss : List (List Int)} (h : ReadsM w v xss) (hT : Tab xss) : TabR w v xss.length (gOf xss) := by
  obtain ⟨A, c, rfl, _, rows⟩ := h.open
  have hn : 0 < xss.length := hT.1.1
  obtain ⟨ad, rfl⟩ : ∃ ad, A = some ad := by obtain ⟨ad, _, _, e, _⟩ := rows 0 _ (List.getElem?_eq_getElem hn); exact ⟨ad, e⟩
  have pick : ∀ i, ∃ p : Addr × Nat, i < xss.length → w.cell? (ad.add i) = some (.slice (some p.1) xss.length p.2) ∧ ∀ j, j < xss.length → w.cell? (p.1.add j) = some (.int .i64 (gOf xss i j)) := by
    intro i
    by_cases hi : i < xss.length
    · have hx := List.getElem?_eq_getElem hi
      obtain ⟨ad', B, d, ea, hc, hr⟩ := rows i _ hx
      cases ea
      have hl := (hT.2 _ (List.mem_of_getElem? hx)).1
      obtain ⟨B', d', eb, _, hb⟩ := hr
      rw [ints_length] at hb
      injection eb with e1 _ e2
      subst e1
      obtain ⟨bd, rfl, hcc⟩ := hb (by omega)
      rw [hl] at hc
      refine ⟨(bd, d), fun _ => ⟨hc, fun j hj => hcc j _ ?_⟩⟩
      have := (gOf_at hT hx hj).1
      simp only [ints, List.getElem?_map, this, Option.map_some]
    · exact ⟨(ad, 0), fun h => absurd h hi⟩
  exact ⟨ad, c, fun i => (Classical.choose (pick i)).1, fun i => (Classical.choose (pick i)).2, rfl, fun i hi => (Classical.choose_spec (pick i) hi).1, fun i j hi hj => (Classical.choose_spec (pick i) hi).2 j hj⟩
end Go.Proofs.YtdcipaaclpedhaaGreat.N
namespace Go.Proofs.YtdcipaaclpedhaaGreat.N
open Go.RowKit
theorem row_form {w : World} {base : Nat} {e : TypeId} {sz : Nat} {v : Value} {n : Nat} {xs : List Value} (h : w.ownsRow base e sz v n xs) : ∃ A c, v = .slice A n c := by
  rcases h.2 with ⟨rfl, h0⟩ | ⟨g, cap, cur, rfl, _⟩
  · exact ⟨none, 0, by rw [h0]⟩
  · exact ⟨_, cap, rfl⟩
theorem row_block {w : World} {base : Nat} {e : TypeId} {sz : Nat} {v : Value} {n : Nat} {xs : List Value} (h : w.ownsRow base e sz v n xs) (hn : 0 < n) : ∃ g c, v = .slice (some ⟨g, 0, none⟩) n c ∧ base ≤ g := by
  rcases h.2 with ⟨rfl, h0⟩ | ⟨g, cap, cur, rfl, hb, _⟩
  · omega
  · exact ⟨g, cap, rfl, hb⟩
theorem row_cell {w : World} {base : Nat} {e : TypeId} {sz n g c : Nat} {xs : List Value} (h : w.ownsRow base e sz (.slice (some ⟨g, 0, none⟩) n c) n xs) (j : Nat) (hj : j < n * sz) : ∃ u, w.cell? ⟨g, j, none⟩ = some u := by
  have hl : j < xs.length := by rw [h.1]; exact hj
  exact ⟨xs[j], by rw [← add_plain]; exact h.cells rfl j _ (List.getElem?_eq_getElem hl)⟩
def Kp (w : World) (o v : Value) (xs : List Value) : Prop := Reads w v xs ∧ (∀ k, o.ownBlock = some k → v.ownBlock ≠ some k) ∧ ∀ k, v.ownBlock = some k → k < w.heap.size
theorem Kp.ext {w w' : World} {o v : Value} {xs : List Value} (h : Kp w o v xs) (hx : Ext w w') : Kp w' o v xs := ⟨h.1.ext hx, h.2.1, fun k hk => Nat.lt_of_lt_of_le (h.2.2 k hk) hx.size⟩
theorem Kp.grown {w w' : World} {o o' v : Value} {xs : List Value} (h : Kp w o v xs) (hg : w.grownBy w' o.ownBlock) (hq : o'.ownBlock = o.ownBlock ∨ o'.ownBlock = some w.heap.size) : Kp w' o' v xs := by
  refine ⟨h.1.far hg h.2.1, fun k hk hv => ?_, fun k hk => Nat.lt_of_lt_of_le (h.2.2 k hk) hg.size⟩
  rcases hq with q | q
  · exact h.2.1 k (q.symm.trans hk) hv
  · have := h.2.2 k hv
    rw [hk] at q
    injection q with q
    omega
theorem Kp.fresh {w0 w : World} {b : Nat} {e e' : TypeId} {o v : Value} {ys xs : List Value} (ho : Own w0 b e o ys) (hv : Own w w0.heap.size e' v xs) : Kp w o v xs :=
  ⟨hv.reads, fun k hk hv' => by have := (ho.block k hk).2; have := (hv.block k hv').1; omega, fun k hk => (hv.block k hk).2⟩
def txs (l : List Tr) : List Value := strs (l.map tx)
theorem txs_length (l : List Tr) : (txs l).length = l.length := by simp [txs, strs]
theorem txs_append (a b : List Tr) : txs a ++ txs b = txs (a ++ b) := by simp [txs, strs]
theorem txs_get {l : List Tr} {k : Nat} {T : Tr} (h : l[k]? = some T) : (txs l)[k]? = some (.string (tx T)) := by simp [txs, strs, h]
theorem txs_one (l : List Tr) : ∀ u ∈ txs l, u.oneCell' = true := strs_one _
theorem Own.txs {w : World} {base : Nat} {v : Value} {l : List Tr} (h : Own w base 9 v (txs l)) : ∃ A c, v = .slice A l.length c := by
  obtain ⟨A, c, rfl, _, _⟩ := h.reads
  exact ⟨A, c, by rw [txs_length]⟩
theorem Reads.txs_cell {w : World} {A : Option Addr} {n c : Nat} {l : List Tr} (h : Reads w (.slice A n c) (txs l)) {k : Nat} {T : Tr} (hk : l[k]? = some T) : ∃ ad, A = some ad ∧ w.cell? (ad.add k) = some (.string (tx T)) := by
  obtain ⟨B, d, e, _, hr⟩ := h
  injection e with e1 e2 e3
  subst e1
  obtain ⟨ad, rfl, hc⟩ := hr (by rw [txs_length]; exact Nat.lt_of_le_of_lt (Nat.zero_le _) (List.getElem?_eq_some_iff.1 hk).1)
  exact ⟨ad, rfl, hc k _ (txs_get hk)⟩
theorem lit_readsS (W : World) (s : ByteArray) : Reads (W.alloc (.cells #[.string s] 9)) (.slice (some ⟨W.heap.size, 0, none⟩) 1 1) (strs [s]) := (Own.lit W 0 9 #[.string s] (Nat.zero_le _) (by show 1 ≤ maxLen; decide)).reads
section
variable {P : Program}
theorem wp_appK {w : World} {o : Oper} {a : Act} {K : Act → World → Prop} {Q : Exit → Act → World → Prop} (x y : Operand) (t : TypeId)
    (ho : o.op = .call { callee := .builtin .append, args := #[x, y], argTypes := #[t, t] })
    (base : Nat) (e : TypeId) (z : Value) (size bytes : Nat) (ht : P.underlying t = some (.slice e)) (hinfo : (P.info? e).map (fun i => (i.zero, i.size, i.bytes)) = some (some z, size, bytes)) (hz : z.cells.size = size) (hs0 : 0 < size)
    (v : Value) (n m c : Nat) (ad : Addr) (xs news : List Value) (hx : a.eval x = v) (hy : a.eval y = .slice (some ad) m c) (hown : w.ownsRow base e size v n xs) (hl : news.length = m * size) (hnews : ∀ j u, news[j]? = some u → w.cell? (ad.add j) = some u) (h1 : ∀ u ∈ news, u.oneCell' = true)
    (h63 : n + m ≤ maxLen) (hbytes : (n + m) * bytes ≤ 140737488355328) (hbase : base ≤ w.heap.size)
    (h : ∀ v' w', w'.ownsRow base e size v' (n + m) (xs ++ news) → w.grownBy w' v.ownBlock → (v'.ownBlock = v.ownBlock ∨ v'.ownBlock = some w.heap.size) → K (a.put o.dst v') w') : o.wp P a w K Q := by
  obtain ⟨i, hi, hzz⟩ := Option.map_eq_some_iff.1 hinfo
  simp only [Prod.mk.injEq] at hzz
  obtain ⟨hz0, hz1, hz2⟩ := hzz
  obtain ⟨v', w', hr, h2, h3, _, h5⟩ := run_append_own_at (P := P) w base t o.type e i z size bytes ht hi hz0 hz1 hz2 hz hs0 v n xs hown ad m c news hl hnews h1 h63 hbytes hbase
  unfold Oper.wp execOp
  simp only [ho, resolve, invoke, builtin, Sem.run_bind, Sem.run_pure, Result.andThen_ok, List.map_toArray, List.map_cons, List.map_nil, hx, hy, hr]
  exact h v' w' h2 h3 h5
theorem wpList_appK {w : World} {ops : Array Oper} {rest : List Oper} {o : Oper} {a : Act} {Q : Exit → Act → World → Prop} (hgd : o.guard = none) (x y : Operand) (t : TypeId)
    (ho : o.op = .call { callee := .builtin .append, args := #[x, y], argTypes := #[t, t] })
    (base : Nat) (e : TypeId) (z : Value) (size bytes : Nat) (ht : P.underlying t = some (.slice e)) (hinfo : (P.info? e).map (fun i => (i.zero, i.size, i.bytes)) = some (some z, size, bytes)) (hz : z.cells.size = size) (hs0 : 0 < size)
    (v : Value) (n m c : Nat) (ad : Addr) (xs news : List Value) (hx : a.eval x = v) (hy : a.eval y = .slice (some ad) m c) (hown : w.ownsRow base e size v n xs) (hl : news.length = m * size) (hnews : ∀ j u, news[j]? = some u → w.cell? (ad.add j) = some u) (h1 : ∀ u ∈ news, u.oneCell' = true)
    (h63 : n + m ≤ maxLen) (hbytes : (n + m) * bytes ≤ 140737488355328) (hbase : base ≤ w.heap.size)
    (h : ∀ v' w', w'.ownsRow base e size v' (n + m) (xs ++ news) → w.grownBy w' v.ownBlock → (v'.ownBlock = v.ownBlock ∨ v'.ownBlock = some w.heap.size) → wpList P ops Q rest (a.put o.dst v') w') : wpList P ops Q (o :: rest) a w :=
  wpList_plain hgd fun _ hK => wp_appK x y t ho base e z size bytes ht hinfo hz hs0 v n m c ad xs news hx hy hown hl hnews h1 h63 hbytes hbase fun v' w' h2 h3 h4 => hK _ _ (h v' w' h2 h3 h4)
theorem new_cells (w : World) (cs : Array Value) (t : TypeId) : ∀ j u, cs.toList[j]? = some u → (w.alloc (.cells cs t)).cell? ((⟨w.heap.size, 0, none⟩ : Addr).add j) = some u := by
  intro j u hu
  rw [add_plain, cell_of_row _ w.heap.size j cs t (0, 0) (heap_alloc_new w _)]
  simpa using hu
theorem row_mono {w : World} {base base' : Nat} {e : TypeId} {sz n : Nat} {v : Value} {xs : List Value} (h : w.ownsRow base e sz v n xs) (hb : base' ≤ base) : w.ownsRow base' e sz v n xs := by
  refine ⟨h.1, ?_⟩
  rcases h.2 with h0 | ⟨g, cap, cur, h1, h2, h3⟩
  · exact .inl h0
  · exact .inr ⟨g, cap, cur, h1, Nat.le_trans hb h2, h3⟩
theorem new_slice_cell {w : World} {base : Nat} {e : TypeId} {size : Nat} {v : Value} {n : Nat} {xs : List Value} (h : w.ownsRow base e size v n xs) (hn : 0 < n) : ∃ g cap, v = .slice (some ⟨g, 0, none⟩) n cap ∧ ∀ j u, xs[j]? = some u → w.cell? ⟨g, j, none⟩ = some u := by
  rcases h.2 with ⟨rfl, h0⟩ | ⟨g, cap, cur, rfl, _⟩
  · omega
  · exact ⟨g, cap, rfl, fun j u hu => by rw [← add_plain]; exact h.cells rfl j u hu⟩
end
end Go.Proofs.YtdcipaaclpedhaaGreat.N
