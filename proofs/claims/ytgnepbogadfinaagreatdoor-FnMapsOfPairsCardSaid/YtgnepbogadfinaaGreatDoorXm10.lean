import Derived.Deep.LoopGhost
import Derived.Laws.BytesArg
import Derived.Lib.ConvBytes
import Derived.LoopTactic
import Derived.Test.YtgnepbogadfinaaGreatDoorXm5
/- A part of the proof: lemmas that later parts use. -/
set_option linter.unusedVariables false
set_option linter.unusedSimpArgs false
namespace Go.Proofs.YtgnepbogadfinaaGreatDoor.N
open Go.RowKit
def strs (xs : List ByteArray) : List Value := xs.map fun s => .string s
def ints (xs : List Int) : List Value := xs.map fun n => .int .i64 n
theorem strs_length (xs : List ByteArray) : (strs xs).length = xs.length := by simp [strs]
theorem ints_length (xs : List Int) : (ints xs).length = xs.length := by simp [ints]
theorem ints_one (xs : List Int) : ∀ u ∈ ints xs, u.oneCell' = true := by
  intro u hu; obtain ⟨s, _, rfl⟩ := List.mem_map.1 hu; rfl
theorem ints_get (xs : List Int) (k : Nat) (h : k < xs.length) : (ints xs)[k]? = some (.int .i64 xs[k]) := by simp [ints, List.getElem?_eq_getElem h]
end Go.Proofs.YtgnepbogadfinaaGreatDoor.N
namespace Go.Proofs.YtgnepbogadfinaaGreatDoor.N
open Go.RowKit
theorem infoInt : (Tryz.prog.info? 3).map (fun i => (i.zero, i.size, i.bytes)) = some (some (.int .i64 0), 1, 8) := by kernel_rfl
def nats (xs : List Nat) : List Value := ints (xs.map fun (n : Nat) => (n : Int))
theorem nats_length (xs : List Nat) : (nats xs).length = xs.length := by simp [nats, ints]
theorem nats_append (xs ys : List Nat) : nats xs ++ nats ys = nats (xs ++ ys) := by simp [nats, ints]
theorem nats_one (xs : List Nat) : ∀ u ∈ nats xs, u.oneCell' = true := ints_one _
theorem nats_get (xs : List Nat) (k : Nat) (h : k < xs.length) : (nats xs)[k]? = some (.int .i64 (xs[k] : Nat)) := by simp [nats, ints, List.getElem?_eq_getElem h]
def GivesN (w : World) (xs : List Nat) (e : Ending) (w' : World) : Prop := ∃ v, e = .returned v ∧ Own w' w.heap.size 3 v (nats xs) ∧ Ext w w'
set_option maxHeartbeats 3200000 in
set_option maxRecDepth 100000 in
theorem exposed_calls (T : Tr) : ∀ (k : Nat) (p : Option Addr) (w : World), k + T.carets < 100000000 → Rep w T p →
    Calls Tryz.prog 86 #[.pointer p, .int .i64 k] w (GivesN w (expo T k)) := by
  induction T with
  | leaf =>
    intro k p w _ hr
    obtain rfl := hr
    go_enter Tryz.func86, Tryz.ntmps86
    go_wp2_with fail
    go_ret
    exact ⟨_, rfl, Own.nil _ _ _, Ext.refl _⟩
  | node l r ihl ihr =>
    intro k p w hc hr
    have op := hr.open
    clear hr
    obtain ⟨b, pl, pr, rfl, h0, h1, hl, hr⟩ := op
    by_cases hh : l = .leaf ∧ r = .leaf
    · obtain ⟨rfl, rfl⟩ := hh
      obtain rfl := hl
      obtain rfl := hr
      have o := Own.lit w w.heap.size 3 #[.int .i64 k] (Nat.le_refl _) (by show 1 ≤ maxLen; decide)
      have O := Lib.hid o
      clear o hc ihl ihr
      go_enter Tryz.func86, Tryz.ntmps86
      go_wp2_with fail
      go_ret
      exact ⟨_, rfl, O.out, (Ext.refl _).alloc _⟩
    · have hcc : (Tr.node l r).carets = 1 + l.carets + r.carets := rfl
      have e1 : 0 ≤ (l.carets : Int) ∧ (k : Int) + l.carets + 1 < 1000000000 := by omega
      have W1 : Hid ((k : Int) + (l.carets + 1) = ((k + (l.carets + 1) : Nat) : Int)) := by show _ = _; omega
      have W2 : IntKind.i64.wrap ((k : Int) + (l.carets + 1)) = (k : Int) + (l.carets + 1) := wrap_ok (by omega)
      have EN := Lib.hid (expo_node hh k)
      have NL := expo_length l k
      have NR := expo_length r (k + (l.carets + 1))
      have L1 : Hid (((nats (expo l k)).length + (nats (expo r (k + (l.carets + 1)))).length) * 8 ≤ 140737488355328) := by show _ ≤ _; rw [nats_length, nats_length]; omega
      have H := Lib.hid (And.intro hl hr)
      have HC : Hid (k + l.carets < 100000000 ∧ k + (l.carets + 1) + r.carets < 100000000 ∧ l.carets < 1000000000) := ⟨by omega, by omega, by omega⟩
      clear hc hcc NL NR
      cases l with
      | leaf =>
        obtain rfl := hl
        cases r with
        | leaf => exact absurd ⟨rfl, rfl⟩ hh
        | node x y =>
          obtain ⟨b2, px, py, e2, _⟩ := hr
          subst e2
          clear hh
          go_enter Tryz.func86, Tryz.ntmps86
          go_wp2_with fail
          go_region_held3 (fun w' => w'.cell? ⟨b, 0, none⟩ = some (.pointer none) ∧ w'.cell? ⟨b, 1, none⟩ = some (.pointer (some ⟨b2, 0, none⟩)) ∧ Ext w w')
            (first | exact two_cells h0 h1 (Ext.drew (Ext.refl _)) | exact two_cells h0 h1 x4 | exact two_cells h0 h1 x3 | exact two_cells h0 h1 x2 | exact two_cells h0 h1 x1 | fail)
            (first
              | (go_at_call 89; refine (leaves_calls .leaf _ _ HC.out.2.2 (H.out.1.ext x1)).mono ?_; rintro e w2 ⟨rfl, n2, rfl⟩; have x2 := x1.drewN n2)
              | (go_at_call_of 86 (Value.pointer none); refine (ihl _ _ _ HC.out.1 (H.out.1.ext (Ext.refl _).drew)).mono ?_; rintro e w1 ⟨v1, rfl, o1, hx1⟩; have x1 := (Ext.refl w).drew.trans hx1)
              | (go_at_call_of 86 (Value.pointer (some ⟨b2, 0, none⟩)); rw [W1.out]; refine (ihr _ _ _ HC.out.2.1 (H.out.2.ext x2)).mono ?_; rintro e w3 ⟨v3, rfl, o3, hx3⟩; have x3 := x2.trans hx3)
              | (refine step_app (by rfl) (.tmp 26) (.tmp 38) 81 (by rfl) w.heap.size 3 (.int .i64 0) 8 Tryz.underlying81 infoInt rfl (by omega) _ _ (nats (expo .leaf k)) (nats (expo (.node x y) (k + (Tr.leaf.carets + 1)))) (by rfl) (by rfl) (((o1.ext ((Ext.refl _).drewN n2)).ext hx3).mono ((Ext.refl w).drew).size) o3.reads (nats_one _) L1.out x3.size ?_; intro v4 w4 o4 g4 _; have x4 := x3.grown g4 (fun q hq => Nat.le_trans ((Ext.refl w).drew).size (o1.lo q hq)))
              | fail)
          go_wp2_with fail
          go_ret
          refine ⟨_, rfl, ?_, x4⟩
          rw [EN.out]
          rw [nats_append] at o4
          exact o4
      | node x y =>
        obtain ⟨b2, px, py, e2, _⟩ := hl
        subst e2
        clear hh hr
        go_enter Tryz.func86, Tryz.ntmps86
        go_wp2_with fail
        go_region_held3 (fun w' => w'.cell? ⟨b, 0, none⟩ = some (.pointer (some ⟨b2, 0, none⟩)) ∧ w'.cell? ⟨b, 1, none⟩ = some (.pointer pr) ∧ Ext w w')
          (first | exact two_cells h0 h1 (Ext.drew (Ext.refl _)) | exact two_cells h0 h1 x4 | exact two_cells h0 h1 x3 | exact two_cells h0 h1 x2 | exact two_cells h0 h1 x1 | fail)
          (first
            | (go_at_call 89; refine (leaves_calls (.node x y) _ _ HC.out.2.2 (H.out.1.ext x1)).mono ?_; rintro e w2 ⟨rfl, n2, rfl⟩; have x2 := x1.drewN n2)
            | (go_at_call_of 86 (Value.pointer (some ⟨b2, 0, none⟩)); refine (ihl _ _ _ HC.out.1 (H.out.1.ext (Ext.refl _).drew)).mono ?_; rintro e w1 ⟨v1, rfl, o1, hx1⟩; have x1 := (Ext.refl w).drew.trans hx1)
            | (go_at_call_of 86 (Value.pointer pr); rw [W1.out]; refine (ihr _ _ _ HC.out.2.1 (H.out.2.ext x2)).mono ?_; rintro e w3 ⟨v3, rfl, o3, hx3⟩; have x3 := x2.trans hx3)
            | (refine step_app (by rfl) (.tmp 26) (.tmp 38) 81 (by rfl) w.heap.size 3 (.int .i64 0) 8 Tryz.underlying81 infoInt rfl (by omega) _ _ (nats (expo (.node x y) k)) (nats (expo r (k + ((Tr.node x y).carets + 1)))) (by rfl) (by rfl) (((o1.ext ((Ext.refl _).drewN n2)).ext hx3).mono ((Ext.refl w).drew).size) o3.reads (nats_one _) L1.out x3.size ?_; intro v4 w4 o4 g4 _; have x4 := x3.grown g4 (fun q hq => Nat.le_trans ((Ext.refl w).drew).size (o1.lo q hq)))
            | fail)
        go_wp2_with fail
        go_ret
        refine ⟨_, rfl, ?_, x4⟩
        rw [EN.out]
        rw [nats_append] at o4
        exact o4
set_option maxHeartbeats 3200000 in
set_option maxRecDepth 100000 in
theorem without_calls (T : Tr) : ∀ (k : Nat) (p : Option Addr) (w : World), T.carets < 100000000 → k ∈ expo T 0 → Rep w T p →
    Calls Tryz.prog 88 #[.pointer p, .int .i64 k] w (GivesT w (without T k)) := by
  induction T with
  | leaf => intro k p w _ hk; cases hk
  | node l r ihl ihr =>
    intro k p w hc hk hr
    have op := hr.open
    clear hr
    obtain ⟨b, pl, pr, rfl, h0, h1, hl, hr⟩ := op
    by_cases hh : l = .leaf ∧ r = .leaf
    · obtain ⟨rfl, rfl⟩ := hh
      obtain rfl := hl
      obtain rfl := hr
      clear hc hk ihl ihr
      go_enter Tryz.func88, Tryz.ntmps88
      go_wp2_with fail
      go_ret
      exact ⟨_, rfl, rfl, Ext.refl _⟩
    · have H := Lib.hid (And.intro hl hr)
      cases l with
      | leaf =>
        obtain rfl := hl
        cases r with
        | leaf => exact absurd ⟨rfl, rfl⟩ hh
        | node x y =>
          obtain ⟨b2, px, py, e2, _⟩ := hr
          subst e2
          have HC2 := hc
          rcases mem_expo_node hh hk with ⟨k1, k2⟩ | ⟨k1, k2⟩
          · have t1 : (k : Int) < Tr.leaf.carets + 1 := by omega
            have EN : Hid (without (.node .leaf (.node x y)) k = .node (without .leaf k) (.node x y)) := by show _ = _; rw [without_node hh, if_neg (by omega)]
            have HC : Hid (Tr.leaf.carets < 1000000000 ∧ Tr.leaf.carets < 100000000 ∧ k ∈ expo .leaf 0) := ⟨by simp only [Tr.carets] at hc ⊢; omega, by simp only [Tr.carets] at hc ⊢; omega, k2⟩
            have W1 : Hid ((k : Int) = k) := rfl
            have c0 : 0 ≤ (Tr.leaf.carets : Int) ∧ (Tr.leaf.carets : Int) < 1000000000 := by have := HC.out.1; omega
            clear hc hk k1 k2 hh HC2
            go_enter Tryz.func88, Tryz.ntmps88
            go_wp2_with fail
            refine (leaves_calls .leaf _ _ HC.out.1 H.out.1).mono ?_
            rintro e w1 ⟨rfl, n1, rfl⟩
            go_wp2_with fail
            go_region_held3 (fun w' => w'.cell? ⟨b, 0, none⟩ = some (.pointer none) ∧ w'.cell? ⟨b, 1, none⟩ = some (.pointer (some ⟨b2, 0, none⟩)) ∧ Ext w w')
              (first | exact two_cells h0 h1 ((Ext.refl _).drewN n1).drew | exact two_cells h0 h1 ((Ext.refl _).drewN _) | exact two_cells h0 h1 (x3.alloc _) | exact two_cells h0 h1 x3 | fail)
              (first
                | (go_at_call 88; refine (ihl _ _ _ HC.out.2.1 HC.out.2.2 (H.out.1.ext (by first | exact ((Ext.refl _).drewN n1).drew | exact ((Ext.refl _).drewN _) | fail))).mono ?_; rintro e w3 ⟨p3, rfl, r3, hx3⟩; have x3 : Ext w w3 := (by first | exact ((Ext.refl w).drewN n1).drew.trans hx3 | exact ((Ext.refl w).drewN _).trans hx3 | fail))
                | fail)
            go_wp2_with fail
            go_ret
            rw [EN.out]
            exact ⟨_, rfl, Rep.made r3 (H.out.2.ext x3), x3.alloc _⟩
          · have t1 : ¬ (k : Int) < Tr.leaf.carets + 1 := by omega
            have t2 : ((Tr.leaf.carets : Int) + 1) ≤ k := by omega
            have EN : Hid (without (.node .leaf (.node x y)) k = .node .leaf (without (.node x y) (k - (Tr.leaf.carets + 1)))) := by show _ = _; rw [without_node hh, if_pos k1]
            have HC : Hid (Tr.leaf.carets < 1000000000 ∧ (Tr.node x y).carets < 100000000 ∧ k - (Tr.leaf.carets + 1) ∈ expo (.node x y) 0) := ⟨by simp only [Tr.carets] at hc ⊢; omega, by simp only [Tr.carets] at hc ⊢; omega, k2⟩
            have W1 : Hid ((k : Int) - (Tr.leaf.carets + 1) = ((k - (Tr.leaf.carets + 1) : Nat) : Int)) := by show _ = _; omega
            have c0 : 0 ≤ (Tr.leaf.carets : Int) ∧ (Tr.leaf.carets : Int) < 1000000000 := by have := HC.out.1; omega
            have c1 : (k : Int) < 1000000000 := by have := (expo_range _ _ _ hk).2.1; omega
            have W2 : IntKind.i64.wrap ((k : Int) - (Tr.leaf.carets + 1)) = (k : Int) - (Tr.leaf.carets + 1) := wrap_ok (by omega)
            clear hc hk k1 k2 hh HC2
            go_enter Tryz.func88, Tryz.ntmps88
            go_wp2_with fail
            refine (leaves_calls .leaf _ _ HC.out.1 H.out.1).mono ?_
            rintro e w1 ⟨rfl, n1, rfl⟩
            go_wp2_with fail
            go_region_held3 (fun w' => w'.cell? ⟨b, 0, none⟩ = some (.pointer none) ∧ w'.cell? ⟨b, 1, none⟩ = some (.pointer (some ⟨b2, 0, none⟩)) ∧ Ext w w')
              (first | exact two_cells h0 h1 ((Ext.refl _).drewN n1).drew | exact two_cells h0 h1 ((Ext.refl _).drewN _) | exact two_cells h0 h1 (x3.alloc _) | exact two_cells h0 h1 x3 | fail)
              (first
                | (go_at_call 88; rw [W1.out]; refine (ihr _ _ _ HC.out.2.1 HC.out.2.2 (H.out.2.ext (by first | exact ((Ext.refl _).drewN n1).drew | exact ((Ext.refl _).drewN _) | fail))).mono ?_; rintro e w3 ⟨p3, rfl, r3, hx3⟩; have x3 : Ext w w3 := (by first | exact ((Ext.refl w).drewN n1).drew.trans hx3 | exact ((Ext.refl w).drewN _).trans hx3 | fail))
                | fail)
            go_wp2_with fail
            go_ret
            rw [EN.out]
            exact ⟨_, rfl, Rep.made (H.out.1.ext x3) r3, x3.alloc _⟩
      | node x y =>
        obtain ⟨b2, px, py, e2, _⟩ := hl
        subst e2
        clear hr
        have HC2 := hc
        rcases mem_expo_node hh hk with ⟨k1, k2⟩ | ⟨k1, k2⟩
        · have t1 : (k : Int) < (Tr.node x y).carets + 1 := by omega
          have EN : Hid (without (.node (.node x y) r) k = .node (without (.node x y) k) r) := by show _ = _; rw [without_node hh, if_neg (by omega)]
          have HC : Hid ((Tr.node x y).carets < 1000000000 ∧ (Tr.node x y).carets < 100000000 ∧ k ∈ expo (.node x y) 0) := ⟨by simp only [Tr.carets] at hc ⊢; omega, by simp only [Tr.carets] at hc ⊢; omega, k2⟩
          have W1 : Hid ((k : Int) = k) := rfl
          have c0 : 0 ≤ ((Tr.node x y).carets : Int) ∧ ((Tr.node x y).carets : Int) < 1000000000 := by have := HC.out.1; omega
          clear hc hk k1 k2 hh HC2
          go_enter Tryz.func88, Tryz.ntmps88
          go_wp2_with fail
          refine (leaves_calls (.node x y) _ _ HC.out.1 H.out.1).mono ?_
          rintro e w1 ⟨rfl, n1, rfl⟩
          go_wp2_with fail
          go_region_held3 (fun w' => w'.cell? ⟨b, 0, none⟩ = some (.pointer (some ⟨b2, 0, none⟩)) ∧ w'.cell? ⟨b, 1, none⟩ = some (.pointer pr) ∧ Ext w w')
            (first | exact two_cells h0 h1 ((Ext.refl _).drewN n1).drew | exact two_cells h0 h1 ((Ext.refl _).drewN _) | exact two_cells h0 h1 (x3.alloc _) | exact two_cells h0 h1 x3 | fail)
            (first
              | (go_at_call 88; refine (ihl _ _ _ HC.out.2.1 HC.out.2.2 (H.out.1.ext (by first | exact ((Ext.refl _).drewN n1).drew | exact ((Ext.refl _).drewN _) | fail))).mono ?_; rintro e w3 ⟨p3, rfl, r3, hx3⟩; have x3 : Ext w w3 := (by first | exact ((Ext.refl w).drewN n1).drew.trans hx3 | exact ((Ext.refl w).drewN _).trans hx3 | fail))
              | fail)
          go_wp2_with fail
          go_ret
          rw [EN.out]
          exact ⟨_, rfl, Rep.made r3 (H.out.2.ext x3), x3.alloc _⟩
        · have t1 : ¬ (k : Int) < (Tr.node x y).carets + 1 := by omega
          have t2 : (((Tr.node x y).carets : Int) + 1) ≤ k := by omega
          have EN : Hid (without (.node (.node x y) r) k = .node (.node x y) (without r (k - ((Tr.node x y).carets + 1)))) := by show _ = _; rw [without_node hh, if_pos k1]
          have HC : Hid ((Tr.node x y).carets < 1000000000 ∧ (r).carets < 100000000 ∧ k - ((Tr.node x y).carets + 1) ∈ expo r 0) := ⟨by simp only [Tr.carets] at hc ⊢; omega, by simp only [Tr.carets] at hc ⊢; omega, k2⟩
          have W1 : Hid ((k : Int) - ((Tr.node x y).carets + 1) = ((k - ((Tr.node x y).carets + 1) : Nat) : Int)) := by show _ = _; omega
          have c0 : 0 ≤ ((Tr.node x y).carets : Int) ∧ ((Tr.node x y).carets : Int) < 1000000000 := by have := HC.out.1; omega
          have c1 : (k : Int) < 1000000000 := by have := (expo_range _ _ _ hk).2.1; omega
          have W2 : IntKind.i64.wrap ((k : Int) - ((Tr.node x y).carets + 1)) = (k : Int) - ((Tr.node x y).carets + 1) := wrap_ok (by omega)
          clear hc hk k1 k2 hh HC2
          go_enter Tryz.func88, Tryz.ntmps88
          go_wp2_with fail
          refine (leaves_calls (.node x y) _ _ HC.out.1 H.out.1).mono ?_
          rintro e w1 ⟨rfl, n1, rfl⟩
          go_wp2_with fail
          go_region_held3 (fun w' => w'.cell? ⟨b, 0, none⟩ = some (.pointer (some ⟨b2, 0, none⟩)) ∧ w'.cell? ⟨b, 1, none⟩ = some (.pointer pr) ∧ Ext w w')
            (first | exact two_cells h0 h1 ((Ext.refl _).drewN n1).drew | exact two_cells h0 h1 ((Ext.refl _).drewN _) | exact two_cells h0 h1 (x3.alloc _) | exact two_cells h0 h1 x3 | fail)
            (first
              | (go_at_call 88; rw [W1.out]; refine (ihr _ _ _ HC.out.2.1 HC.out.2.2 (H.out.2.ext (by first | exact ((Ext.refl _).drewN n1).drew | exact ((Ext.refl _).drewN _) | fail))).mono ?_; rintro e w3 ⟨p3, rfl, r3, hx3⟩; have x3 : Ext w w3 := (by first | exact ((Ext.refl w).drewN n1).drew.trans hx3 | exact ((Ext.refl w).drewN _).trans hx3 | fail))
              | fail)
          go_wp2_with fail
          go_ret
          rw [EN.out]
          exact ⟨_, rfl, Rep.made (H.out.1.ext x3) r3, x3.alloc _⟩
end Go.Proofs.YtgnepbogadfinaaGreatDoor.N
namespace Go.Proofs.YtgnepbogadfinaaGreatDoor.N
open Go.RowKit
def ix : List Int → Int → Nat → Int
  | [], _, _ => -1
  | x :: l, n, k => if x = n then (k : Int) else ix l n (k + 1)
theorem ix_ge : ∀ (l : List Int) (n : Int) (k : Nat), (0 ≤ ix l n k ↔ n ∈ l) ∧ -1 ≤ ix l n k
  | [], n, k => by simp [ix]
  | x :: l, n, k => by
    simp only [ix, List.mem_cons]
    by_cases h : x = n
    · rw [if_pos h]; exact ⟨⟨fun _ => .inl h.symm, fun _ => by omega⟩, by omega⟩
    · rw [if_neg h]
      obtain ⟨h1, h2⟩ := ix_ge l n (k + 1)
      refine ⟨⟨fun h' => .inr (h1.1 h'), fun h' => ?_⟩, h2⟩
      rcases h' with e | e
      · exact absurd e.symm h
      · exact h1.2 e
set_option maxHeartbeats 1600000 in
theorem indexInt_calls (xs : List Int) (n : Int) (hl : xs.length < 100000000) (v : Value) (w : World) (hv : Reads w v (ints xs)) :
    Calls Tryz.prog 101 #[v, .int .i64 n] w fun e w' => e = .returned (.int .i64 (ix xs n 0)) ∧ w = w' := by
  obtain ⟨A, c, rfl, _, rd⟩ := hv
  rw [ints_length] at *
  have RD := Lib.hid rd
  clear rd
  go_enter Tryz.func101, Tryz.ntmps101
  go_wp2
  go_loop [8] (fun i => ∃ k : Nat, k ≤ xs.length ∧ i = .int .i64 k ∧ Hid (ix (xs.drop k) n k = ix xs n 0)) (fun i => xs.length - (intOf i).toNat)
  case atStart => exact ⟨0, Nat.zero_le _, rfl, rfl⟩
  case round =>
    obtain ⟨k, hk, rfl, HI⟩ := hrel
    by_cases hlt : k < xs.length
    · obtain ⟨ad, rfl, ca⟩ := RD.out (by omega)
      have c1 := ca k _ (ints_get xs k hlt)
      have h0 : (0 : Int) ≤ k := by omega
      have h1 : (k : Int) < xs.length := by omega
      have HD : Hid (xs.drop k = xs[k] :: xs.drop (k + 1)) := List.drop_eq_getElem_cons hlt
      clear ca
      by_cases hx : xs[k] = n
      · have HE : Hid (ix xs n 0 = (k : Int)) := by show _ = _; rw [← HI.out, HD.out, ix, if_pos hx]
        rw [hx] at c1
        clear hx HD
        go_wp2
        go_ret
        exact ⟨by rw [HE.out]; rfl, rfl⟩
      · have HE : Hid (ix (xs.drop (k + 1)) n (k + 1) = ix xs n 0) := by show _ = _; rw [← HI.out, HD.out, ix, if_neg hx]
        have t1 : (n == xs[k]) = false := by rw [beq_eq_false_iff_ne]; exact fun e => hx e.symm
        clear hx HD
        generalize xs[k] = x at *
        go_wp2
        exact ⟨⟨k + 1, by omega, by go_num, HE.out⟩, by simp [intOf]; omega⟩
    · have h1 : (xs.length : Int) ≤ k := by omega
      have HE : Hid (ix xs n 0 = -1) := by show _ = _; rw [← HI.out, List.drop_eq_nil_of_le (by omega)]; rfl
      go_wp2
      go_ret
      exact ⟨by rw [HE.out]; rfl, rfl⟩
theorem containsInt_calls (xs : List Int) (n : Int) (hl : xs.length < 100000000) (v : Value) (w : World) (hv : Reads w v (ints xs)) :
    Calls Tryz.prog 87 #[v, .int .i64 n] w fun e w' => e = .returned (.bool (decide (n ∈ xs))) ∧ w = w' := by
  have C := Lib.hid (indexInt_calls xs n hl v w hv)
  obtain ⟨h1, h2⟩ := ix_ge xs n 0
  by_cases h : n ∈ xs
  · have h3 := h1.2 h
    rw [decide_eq_true h]
    clear h1 h hv
    go_enter Tryz.func87, Tryz.ntmps87
    go_wp2_with fail
    refine (C.out).mono ?_
    rintro e w1 ⟨rfl, rfl⟩
    go_wp2_with fail
    go_ret
    exact ⟨by first | (simp; done) | (simp; omega), rfl⟩
  · have h3 : ¬ 0 ≤ ix xs n 0 := fun h' => h (h1.1 h')
    rw [decide_eq_false h]
    clear h1 h hv
    go_enter Tryz.func87, Tryz.ntmps87
    go_wp2_with fail
    refine (C.out).mono ?_
    rintro e w1 ⟨rfl, rfl⟩
    go_wp2_with fail
    go_ret
    exact ⟨by first | (simp; done) | (simp; omega), rfl⟩
theorem mem_cast (l : List Nat) (x : Nat) : ((x : Int) ∈ l.map fun (n : Nat) => (n : Int)) ↔ x ∈ l := by
  rw [List.mem_map]
  constructor
  · rintro ⟨a, h, e⟩
    obtain rfl : a = x := Int.ofNat.inj e
    exact h
  · intro h
    exact ⟨x, h, rfl⟩
set_option maxHeartbeats 3200000 in
set_option maxRecDepth 100000 in
theorem both_calls (A B : Tr) (hA : A.carets < 10000000) (hB : B.carets < 10000000) (pa pb : Option Addr) (w : World) (ra : Rep w A pa) (rb : Rep w B pb) :
    Calls Tryz.prog 64 #[.agg #[.pointer pa, .pointer pb]] w (GivesN w (bothT A B)) := by
  have X0 := Lib.hid ((Ext.refl w).alloc (.cells #[.pointer pa, .pointer pb] 53))
  have C1 := exposed_calls B 0 pb _ (by omega) (rb.ext X0.out)
  have C2 := fun W (hx : Ext w W) => exposed_calls A 0 pa W (by omega) (ra.ext hx)
  have LA := expo_length A 0
  have LB := expo_length B 0
  have EB : Hid (bothT A B = (expo A 0).filter fun k => (expo B 0).contains k) := rfl
  have LA' : (expo A 0).length < 10000000 := by omega
  have LB' : (expo B 0).length < 10000000 := by omega
  clear ra rb LA LB hA hB
  generalize expo A 0 = fa at *
  generalize expo B 0 = fb at *
  go_enter Tryz.func64, Tryz.ntmps64
  go_wp2_with fail
  refine C1.mono ?_
  rintro e w1 ⟨v1, rfl, o1, x1⟩
  have O1 := Lib.hid o1
  have X1 := Lib.hid (X0.out.trans x1)
  have h1 : w1.cell? ⟨w.heap.size, 0, none⟩ = some (.pointer pa) := x1.cell (by go_simp)
  clear o1 x1
  go_wp2_with fail
  refine (C2 _ X1.out).mono ?_
  rintro e w2 ⟨v2, rfl, o2, x2⟩
  obtain ⟨A2, c2, rfl, _, rd2⟩ := o2.reads
  rw [nats_length] at rd2 ⊢
  have RD := Lib.hid rd2
  have R1 := Lib.hid (O1.out.reads.ext x2)
  have X2 := Lib.hid (X1.out.trans x2)
  clear rd2 o2 x2 h1 O1
  go_wp2_with fail
  go_loopw [3, 14] (fun o i wr => ∃ k : Nat, k ≤ fa.length ∧ i = .int .i64 k ∧ Hid (Own wr w2.heap.size 3 o (nats ((fa.take k).filter fun k => fb.contains k))) ∧ Hid (Ext w2 wr)) (fun _ i _ => fa.length - (intOf i).toNat)
  case atStart => exact ⟨0, Nat.zero_le _, rfl, Own.nil _ _ _, Ext.refl _⟩
  case round =>
    obtain ⟨k, hk, rfl, HO, HX⟩ := hrel
    by_cases hlt : k < fa.length
    · obtain ⟨ad, rfl, ca⟩ := RD.out (by omega)
      have c1 := HX.out.cell (ca k _ (nats_get fa k hlt))
      have h0 : (0 : Int) ≤ k := by omega
      have h1 : (k : Int) < fa.length := by omega
      have FT := Lib.hid (filter_take (fun k => fb.contains k) fa k hlt)
      have LT : Hid (((fa.take k).filter fun k => fb.contains k).length ≤ k) := Nat.le_trans (List.length_filter_le _ _) (List.length_take_le _ _)
      clear ca
      generalize fa[k] = x at *
      have CC := Lib.hid (containsInt_calls (fb.map fun (n : Nat) => (n : Int)) x (by simp; omega) v1 wr (R1.out.ext HX.out))
      have DM : Hid (decide ((x : Int) ∈ fb.map fun (n : Nat) => (n : Int)) = fb.contains x) := by show _ = _; rw [Bool.eq_iff_iff, decide_eq_true_eq, mem_cast]; simp
      cases hc : fb.contains x with
      | false =>
        have FT2 : Hid ((fa.take (k + 1)).filter (fun k => fb.contains k) = (fa.take k).filter (fun k => fb.contains k)) := Lib.hid (by have := FT.out; rw [hc] at this; simpa using this)
        have D2 : Hid (decide ((x : Int) ∈ fb.map fun (n : Nat) => (n : Int)) = false) := Lib.hid (DM.out.trans hc)
        clear hc
        go_wp2_with fail
        refine CC.out.mono ?_
        rw [D2.out]
        rintro e w3 ⟨rfl, rfl⟩
        go_wp2_with fail
        exact ⟨⟨k + 1, by omega, by go_num, FT2.out.symm ▸ HO.out, HX.out⟩, by simp [intOf]; omega⟩
      | true =>
        have FT2 : Hid ((fa.take (k + 1)).filter (fun k => fb.contains k) = (fa.take k).filter (fun k => fb.contains k) ++ [x]) := Lib.hid (by have := FT.out; rw [hc] at this; simpa using this)
        have D2 : Hid (decide ((x : Int) ∈ fb.map fun (n : Nat) => (n : Int)) = true) := Lib.hid (DM.out.trans hc)
        have RL := Lib.hid (Own.lit wr 0 3 #[.int .i64 x] (Nat.zero_le _) (by show 1 ≤ maxLen; decide)).reads
        have O2 := HO.out.ext ((Ext.refl _).alloc (.cells #[.int .i64 x] 3))
        have LL : Hid (((nats ((fa.take k).filter fun k => fb.contains k)).length + (nats [x]).length) * 8 ≤ 140737488355328) := by show _ ≤ _; rw [nats_length, nats_length]; have := LT.out; show (_ + 1) * 8 ≤ _; omega
        have B1 := Lib.hid (HX.out.alloc (.cells #[.int .i64 x] 3)).size
        clear hc
        go_wp2_with fail
        refine CC.out.mono ?_
        rw [D2.out]
        rintro e w3 ⟨rfl, rfl⟩
        go_wp2_with (at_builtin; refine wpList_app rfl (.tmp 21) (.tmp 23) 81 rfl w2.heap.size 3 (.int .i64 0) 8 Tryz.underlying81 infoInt rfl (by omega) _ _ _ (nats [x]) rfl rfl O2 RL.out (nats_one _) LL.out B1.out ?_; intro v4 w4 o4 g4 _)
        have X4 := Lib.hid ((HX.out.alloc _).grown g4 O2.lo)
        rw [nats_append] at o4
        have O4 := Lib.hid o4
        clear o4 g4 O2
        go_wp2_with fail
        exact ⟨⟨k + 1, by omega, by go_num, FT2.out.symm ▸ O4.out, X4.out⟩, by simp [intOf]; omega⟩
    · have h1 : (fa.length : Int) ≤ k := by omega
      have E : Hid (fa.take k = fa) := List.take_of_length_le (by omega)
      go_wp2_with fail
      go_ret
      refine ⟨_, rfl, ?_, X2.out.trans HX.out⟩
      rw [EB.out]
      exact (E.out ▸ HO.out).mono X2.out.size
end Go.Proofs.YtgnepbogadfinaaGreatDoor.N
namespace Go.Proofs.YtgnepbogadfinaaGreatDoor.N
open Go.RowKit
def ReadsM (w : World) (v : Value) (xss : List (List Int)) : Prop :=
  ∃ vs : List Value, Reads w v vs ∧ vs.length = xss.length ∧ ∀ (r : Nat) (xs : List Int), xss[r]? = some xs → ∃ u, vs[r]? = some u ∧ Reads w u (ints xs)
theorem ReadsM.ext {w w' : World} {v : Value} {xss : List (List Int)} (h : ReadsM w v xss) (hx : Ext w w') : ReadsM w' v xss := by
  obtain ⟨vs, h1, h2, h3⟩ := h
  exact ⟨vs, h1.ext hx, h2, fun r xs e => let ⟨u, a, b⟩ := h3 r xs e; ⟨u, a, b.ext hx⟩⟩
theorem ReadsM.open {w : World} {v : Value} {xss : List (List Int)} (h : ReadsM w v xss) : ∃ A c, v = .slice A xss.length c ∧ (A = none → c = 0) ∧
    ∀ (r : Nat) (xs : List Int), xss[r]? = some xs → ∃ ad B d, A = some ad ∧ w.cell? (ad.add r) = some (.slice B xs.length d) ∧ Reads w (.slice B xs.length d) (ints xs) := by
  obtain ⟨vs, ⟨A, c, rfl, h0, h1⟩, h2, h3⟩ := h
  refine ⟨A, c, by rw [h2], h0, fun r xs e => ?_⟩
  obtain ⟨u, hu, k⟩ := h3 r xs e
  obtain ⟨ad, rfl, hc⟩ := h1 (by have := (List.getElem?_eq_some_iff.1 hu).1; omega)
  have hcu := hc r u hu
  obtain ⟨B, d, rfl, k0, k1⟩ := k
  rw [ints_length] at *
  exact ⟨ad, B, d, rfl, hcu, ⟨B, d, by rw [ints_length], k0, by rw [ints_length]; exact k1⟩⟩
def Rows (w : World) (base : Nat) (us : List Value) (xss : List (List Int)) : Prop :=
  us.length = xss.length ∧ (∀ (r : Nat) (xs : List Int), xss[r]? = some xs → ∃ u, us[r]? = some u ∧ Own w base 3 u (ints xs)) ∧
  ∀ (r s : Nat) (u v : Value), r < s → us[r]? = some u → us[s]? = some v → ∀ k, u.ownBlock = some k → v.ownBlock ≠ some k
def OwnM (w : World) (base : Nat) (v : Value) (xss : List (List Int)) : Prop := ∃ us, Own w base 81 v us ∧ Rows w base us xss
theorem OwnM.reads {w : World} {base : Nat} {v : Value} {xss : List (List Int)} (h : OwnM w base v xss) : ReadsM w v xss := by
  obtain ⟨us, h1, h2, h3, _⟩ := h
  exact ⟨us, h1.reads, h2, fun r xs e => let ⟨u, a, b⟩ := h3 r xs e; ⟨u, a, b.reads⟩⟩
theorem Rows.nil (w : World) (base : Nat) : Rows w base [] [] := ⟨rfl, fun r xs e => by simp at e, fun r s u v _ e => by simp at e⟩
theorem Rows.ext {w w' : World} {base : Nat} {us : List Value} {xss : List (List Int)} (h : Rows w base us xss) (hx : Ext w w') : Rows w' base us xss :=
  ⟨h.1, fun r xs e => let ⟨u, a, b⟩ := h.2.1 r xs e; ⟨u, a, b.ext hx⟩, h.2.2⟩
theorem Rows.mono {w : World} {base base' : Nat} {us : List Value} {xss : List (List Int)} (h : Rows w base us xss) (hb : base' ≤ base) : Rows w base' us xss :=
  ⟨h.1, fun r xs e => let ⟨u, a, b⟩ := h.2.1 r xs e; ⟨u, a, b.mono hb⟩, h.2.2⟩
theorem OwnM.ext {w w' : World} {base : Nat} {v : Value} {xss : List (List Int)} (h : OwnM w base v xss) (hx : Ext w w') : OwnM w' base v xss :=
  let ⟨us, a, b⟩ := h; ⟨us, a.ext hx, b.ext hx⟩
theorem OwnM.mono {w : World} {base base' : Nat} {v : Value} {xss : List (List Int)} (h : OwnM w base v xss) (hb : base' ≤ base) : OwnM w base' v xss :=
  let ⟨us, a, b⟩ := h; ⟨us, a.mono hb, b.mono hb⟩
theorem Rows.far {w w' : World} {base g : Nat} {us : List Value} {xss : List (List Int)} (h : Rows w base us xss) (hg : w.grownBy w' (some g)) (hb : g < base) : Rows w' base us xss :=
  ⟨h.1, fun r xs e => let ⟨u, a, b⟩ := h.2.1 r xs e; ⟨u, a, b.far hg (fun k hk hu => by cases hk; have := b.lo _ hu; omega)⟩, h.2.2⟩
theorem Rows.snoc {w : World} {base b0 : Nat} {us : List Value} {xss : List (List Int)} {u : Value} {xs : List Int} (h : Rows w base us xss) (hu : Own w b0 3 u (ints xs)) (hb : base ≤ b0)
    (hl : ∀ (v : Value), v ∈ us → ∀ k, v.ownBlock = some k → k < b0) : Rows w base (us ++ [u]) (xss ++ [xs]) := by
  refine ⟨by simp [h.1], fun r ys e => ?_, fun r s a b hrs ea eb k ha hb' => ?_⟩
  · rw [List.getElem?_append] at e
    split at e
    · rename_i hr
      obtain ⟨v, hv, k⟩ := h.2.1 r ys e
      exact ⟨v, by rw [List.getElem?_append_left (by rw [h.1]; exact hr)]; exact hv, k⟩
    · rename_i hr
      have : r = xss.length := by have := (List.getElem?_eq_some_iff.1 e).1; simp at this; omega
      subst this
      have e : xs = ys := by simpa using e
      subst e
      exact ⟨u, by rw [List.getElem?_append_right (by rw [h.1]; exact Nat.le_refl _)]; simp [h.1], hu.mono hb⟩
  · have hs : s < us.length + 1 := by have := (List.getElem?_eq_some_iff.1 eb).1; simpa using this
    have hr : r < us.length := by omega
    rw [List.getElem?_append_left hr] at ea
    by_cases hs2 : s < us.length
    · rw [List.getElem?_append_left hs2] at eb
      exact h.2.2 r s a b hrs ea eb k ha hb'
    · have : s = us.length := by omega
      subst this
      rw [List.getElem?_append_right (Nat.le_refl _)] at eb
      have e : u = b := by simpa using eb
      subst e
      have h1 := hu.lo k hb'
      have h2 := hl a (List.mem_of_getElem? ea) k ha
      omega
theorem Rows.lt {w : World} {base : Nat} {us : List Value} {xss : List (List Int)} (h : Rows w base us xss) : ∀ (v : Value), v ∈ us → ∀ k, v.ownBlock = some k → k < w.heap.size := by
  intro v hv k hk
  obtain ⟨r, hr, e⟩ := List.getElem_of_mem hv
  obtain ⟨u, hu, o⟩ := h.2.1 r (xss[r]'(by rw [← h.1]; exact hr)) (List.getElem?_eq_getElem _)
  rw [List.getElem?_eq_getElem hr, e] at hu
  cases hu
  exact (o.block k hk).2
structure Mid (us : List Value) (w w' : World) : Prop where
  os : w'.os = w.os
  tape : w'.tape = w.tape
  output : w'.output = w.output
  size : w.heap.size ≤ w'.heap.size
  block : ∀ i, i < w.heap.size → (∀ u ∈ us, u.ownBlock ≠ some i) → w'.heap[i]? = w.heap[i]?
theorem Mid.refl (us : List Value) (w : World) : Mid us w w := ⟨rfl, rfl, rfl, Nat.le_refl _, fun _ _ _ => rfl⟩
theorem Mid.step {us : List Value} {w w' w'' : World} {u : Value} (h : Mid us w w') (hg : w'.grownBy w'' u.ownBlock) (hu : u ∈ us) : Mid us w w'' :=
  ⟨hg.os.trans h.os, hg.tape.trans h.tape, hg.output.trans h.output, Nat.le_trans h.size hg.size, fun i hi hn => (hg.block i (Nat.lt_of_lt_of_le hi h.size) (fun e => hn u hu e.symm)).trans (h.block i hi hn)⟩
theorem Mid.ext {us : List Value} {w0 w w' : World} (h : Mid us w w') (hx : Ext w0 w) (hu : ∀ u ∈ us, ∀ k, u.ownBlock = some k → w0.heap.size ≤ k) : Ext w0 w' :=
  ⟨h.os.trans hx.os, h.tape.trans hx.tape, h.output.trans hx.output, Nat.le_trans hx.size h.size, fun i hi => (h.block i (Nat.lt_of_lt_of_le hi hx.size) (fun u hm e => by have := hu u hm i e; omega)).trans (hx.block i hi)⟩
theorem Own.same {w w' : World} {base : Nat} {e : TypeId} {v : Value} {xs : List Value} (h : Own w base e v xs) (hs : ∀ k, v.ownBlock = some k → w'.heap[k]? = w.heap[k]?) : Own w' base e v xs := by
  refine ⟨h.1, ?_⟩
  rcases h.2 with h | ⟨g, cap, cur, e1, h1, h2, h3⟩
  · exact .inl h
  · exact .inr ⟨g, cap, cur, e1, h1, by rw [hs g (by rw [e1]; rfl)]; exact h2, h3⟩
theorem Mid.own {us : List Value} {w w' : World} {base B : Nat} {e : TypeId} {v : Value} {xs : List Value} (h : Mid us w w') (o : Own w B e v xs) (hu : ∀ u ∈ us, ∀ k, u.ownBlock = some k → k < B) : Own w' B e v xs :=
  o.same fun k hk => h.block k (o.block k hk).2 fun u hm e => by have := hu u hm k e; have := o.lo k hk; omega
end Go.Proofs.YtgnepbogadfinaaGreatDoor.N
namespace Go.Proofs.YtgnepbogadfinaaGreatDoor.N
open Go.RowKit
def InN (n : Nat) (xs : List Int) : Prop := ∀ x ∈ xs, 0 ≤ x ∧ x < (n : Int)
instance (n : Nat) (xs : List Int) : Decidable (InN n xs) := by unfold InN; infer_instance
def RowN (n : Nat) (xs : List Int) : Prop := xs.length = n ∧ InN n xs
instance (n : Nat) (xs : List Int) : Decidable (RowN n xs) := by unfold RowN; infer_instance
def Tab (xss : List (List Int)) : Prop := (1 ≤ xss.length ∧ xss.length ≤ 4) ∧ ∀ xs ∈ xss, RowN xss.length xs
instance (xss : List (List Int)) : Decidable (Tab xss) := by unfold Tab; infer_instance
theorem l1In_calls (x lo hi : Int) (w : World) :
    Calls Tryz.prog 60 #[.int .i64 x, .int .i64 lo, .int .i64 hi] w fun e w' => e = .returned (.bool (decide (lo ≤ x ∧ x ≤ hi))) ∧ w = w' := by
  by_cases h1 : lo ≤ x
  · by_cases h2 : x ≤ hi
    · rw [decide_eq_true ⟨h1, h2⟩]
      go_enter Tryz.func60, Tryz.ntmps60
      go_wp2_with fail
      go_ret
      exact ⟨rfl, rfl⟩
    · rw [decide_eq_false (fun h => h2 h.2)]
      go_enter Tryz.func60, Tryz.ntmps60
      go_wp2_with fail
      go_ret
      exact ⟨rfl, rfl⟩
  · rw [decide_eq_false (fun h => h1 h.1)]
    go_enter Tryz.func60, Tryz.ntmps60
    go_wp2_with fail
    go_ret
    exact ⟨rfl, rfl⟩
def InI (lo hi : Int) (xs : List Int) : Prop := ∀ x ∈ xs, lo ≤ x ∧ x ≤ hi
instance (lo hi : Int) (xs : List Int) : Decidable (InI lo hi xs) := by unfold InI; infer_instance
end Go.Proofs.YtgnepbogadfinaaGreatDoor.N
namespace Go.Proofs.YtgnepbogadfinaaGreatDoor.N
open Go.RowKit
theorem infoStr : (Tryz.prog.info? 9).map (fun i => (i.zero, i.size, i.bytes)) = some (some (.string ⟨#[]⟩), 1, 16) := by kernel_rfl
def sls (xs : List (List UInt8)) : List Value := xs.map fun s => .string (S s)
theorem sls_length (xs : List (List UInt8)) : (sls xs).length = xs.length := by simp [sls]
theorem sls_append (xs ys : List (List UInt8)) : sls xs ++ sls ys = sls (xs ++ ys) := by simp [sls]
theorem sls_one (xs : List (List UInt8)) : ∀ u ∈ sls xs, u.oneCell' = true := by
  intro u hu; obtain ⟨s, _, rfl⟩ := List.mem_map.1 hu; rfl
def GivesS (w : World) (xs : List (List UInt8)) (e : Ending) (w' : World) : Prop := ∃ v, e = .returned v ∧ Own w' w.heap.size 9 v (sls xs) ∧ Ext w w'
theorem sls_get (xs : List (List UInt8)) (k : Nat) (h : k < xs.length) : (sls xs)[k]? = some (.string (S xs[k])) := by simp [sls, List.getElem?_eq_getElem h]
end Go.Proofs.YtgnepbogadfinaaGreatDoor.N
namespace Go.Proofs.YtgnepbogadfinaaGreatDoor.N
open Go.RowKit
def pc1 (n : Int) : Int := IntKind.u64.wrap (bits BinOp.and IntKind.u64 (n / 2) 6148914691236517205 + bits BinOp.and IntKind.u64 n 6148914691236517205)
def pc2 (n : Int) : Int := IntKind.u64.wrap (bits BinOp.and IntKind.u64 (n / 4) 3689348814741910323 + bits BinOp.and IntKind.u64 n 3689348814741910323)
def pc3 (n : Int) : Int := bits BinOp.and IntKind.u64 (IntKind.u64.wrap (n / 16 + n)) 1085102592571150095
def pc4 (n : Int) : Int := IntKind.u64.wrap (n + n / 256)
def pc5 (n : Int) : Int := IntKind.u64.wrap (n + n / 65536)
def pc6 (n : Int) : Int := IntKind.u64.wrap (n + n / 4294967296)
def popc (n : Int) : Int := bits BinOp.and IntKind.i64 (wrap64 (pc6 (pc5 (pc4 (pc3 (pc2 (pc1 n))))))) 127
def isP2 (n : Nat) : Bool := (List.range 11).any fun k => 2 ^ k == n
theorem popc_all : ((List.range 1025).all fun n => (popc (n : Int) == 1) == isP2 n) = true := by kernel_rfl
theorem popc_eq (n : Nat) (h : n ≤ 1024) : (popc n == 1) = isP2 n := by
  have := List.all_eq_true.1 popc_all n (List.mem_range.2 (by omega))
  simpa using this
theorem isP2_iff (n : Nat) : isP2 n = true ↔ ∃ k, k ≤ 10 ∧ n = 2 ^ k := by
  unfold isP2
  rw [List.any_eq_true]
  constructor
  · rintro ⟨k, hk, h⟩
    exact ⟨k, by have := List.mem_range.1 hk; omega, (by simpa using h : 2 ^ k = n).symm⟩
  · rintro ⟨k, hk, rfl⟩
    exact ⟨k, List.mem_range.2 (by omega), by simp⟩
set_option maxHeartbeats 1600000 in
theorem ones64 (n : Nat) (hn : n ≤ 1024) (w : World) :
    Calls Tryz.prog 80 #[.int .u64 n] w fun e w' => e = .returned (.int .i64 (popc n)) ∧ w = w' := by
  go_enter Tryz.func80, Tryz.ntmps80
  go_wp2_with fail
  go_ret
  exact ⟨rfl, rfl⟩
theorem ones_calls (n : Nat) (hn : n ≤ 1024) (w : World) :
    Calls Tryz.prog 53 #[.int .u64 n] w fun e w' => e = .returned (.int .i64 (popc n)) ∧ w = w' := by
  have C1 := Lib.hid (fun W => ones64 n hn W)
  generalize popc n = p at *
  go_enter Tryz.func53, Tryz.ntmps53
  go_wp2_with fail
  refine (C1.out _).mono ?_
  rintro e w1 ⟨rfl, rfl⟩
  go_wp2_with fail
  go_ret
  exact ⟨rfl, rfl⟩
def goodB (n d : Int) : Bool := decide (1 ≤ d ∧ d ≤ 1024) && isP2 d.toNat && decide (0 ≤ n ∧ n ≤ d) && (d == 1 || n % 2 == 1)
theorem goodB_far {n d : Int} (h : ¬ (1 ≤ d ∧ d ≤ 1024)) : goodB n d = false := by simp [goodB, h]
theorem goodB_two {n : Int} {c : Nat} (h : isP2 c = false) : goodB n c = false := by simp [goodB, h]
theorem goodB_num {n d : Int} (h : ¬ (0 ≤ n ∧ n ≤ d)) : goodB n d = false := by
  unfold goodB
  rw [decide_eq_false h]; simp
theorem goodB_in {n : Int} {c : Nat} (h1 : 1 ≤ c) (h2 : c ≤ 1024) (h3 : isP2 c = true) (h4 : 0 ≤ n ∧ n ≤ (c : Int)) : goodB n c = ((c : Int) == 1 || n % 2 == 1) := by
  unfold goodB
  rw [decide_eq_true (by omega : (1 : Int) ≤ c ∧ (c : Int) ≤ 1024), decide_eq_true h4, Int.toNat_natCast, h3]; simp
set_option maxHeartbeats 3200000 in
set_option maxRecDepth 100000 in
theorem isFraction_calls (n d : Int) (w : World) :
    Calls Tryz.prog 22 #[.agg #[.int .i64 n, .int .i64 d]] w fun e w' => e = .returned (.bool (goodB n d)) ∧ Ext w w' := by
  have X0 := Lib.hid ((Ext.refl w).alloc (.cells #[.int .i64 n, .int .i64 d] 27))
  obtain ⟨c0, c1⟩ := cells_of (heap_alloc_new w (.cells #[.int .i64 n, .int .i64 d] 27))
  by_cases hd : 1 ≤ d ∧ d ≤ 1024
  · obtain ⟨c, rfl⟩ : ∃ c : Nat, d = c := ⟨d.toNat, by omega⟩
    have C1 := Lib.hid (fun W => ones_calls c (by omega) W)
    have PE := popc_eq c (by omega)
    have wr : IntKind.u64.wrap (c : Int) = c := by simp [IntKind.wrap, IntKind.bits, IntKind.signed]; omega
    cases hp : isP2 c with
    | false =>
      have HE : Hid (goodB n c = false) := goodB_two hp
      rw [hp] at PE
      clear hp
      generalize popc c = q at *
      have p2 : (q != 1) = true := by rw [bne, PE]; rfl
      have p3 : ¬ q = 1 := by simpa using PE
      go_enter Tryz.func22, Tryz.ntmps22
      go_wp2_with fail
      generalize w.alloc (.cells #[.int .i64 n, .int .i64 c] 27) = W at *
      refine (C1.out _).mono ?_
      rintro e w1 ⟨rfl, rfl⟩
      go_wp2_with fail
      go_ret
      exact ⟨by rw [HE.out]; rfl, X0.out⟩
    | true =>
      rw [hp] at PE
      have PE : popc c = 1 := by simpa using PE
      rw [PE] at C1
      clear PE
      by_cases hn : 0 ≤ n ∧ n ≤ (c : Int)
      · have HE := Lib.hid (goodB_in (by omega) (by omega) hp hn)
        clear hp
        cases t1 : ((c : Int) == 1) with
        | true =>
          rw [t1] at HE
          go_enter Tryz.func22, Tryz.ntmps22
          go_wp2_with fail
          generalize w.alloc (.cells #[.int .i64 n, .int .i64 c] 27) = W at *
          refine (C1.out _).mono ?_
          rintro e w1 ⟨rfl, rfl⟩
          go_wp2_with fail
          go_ret
          exact ⟨by rw [HE.out]; rfl, X0.out⟩
        | false =>
          rw [t1] at HE
          go_enter Tryz.func22, Tryz.ntmps22
          go_wp2_with fail
          generalize w.alloc (.cells #[.int .i64 n, .int .i64 c] 27) = W at *
          refine (C1.out _).mono ?_
          rintro e w1 ⟨rfl, rfl⟩
          go_wp2_with fail
          go_ret
          exact ⟨by rw [HE.out]; rfl, X0.out⟩
      · have HE := Lib.hid (goodB_num hn)
        clear hp
        by_cases h0 : n < 0
        · go_enter Tryz.func22, Tryz.ntmps22
          go_wp2_with fail
          generalize w.alloc (.cells #[.int .i64 n, .int .i64 c] 27) = W at *
          refine (C1.out _).mono ?_
          rintro e w1 ⟨rfl, rfl⟩
          go_wp2_with fail
          go_ret
          exact ⟨by rw [HE.out]; rfl, X0.out⟩
        · have h1 : (c : Int) < n := by omega
          go_enter Tryz.func22, Tryz.ntmps22
          go_wp2_with fail
          generalize w.alloc (.cells #[.int .i64 n, .int .i64 c] 27) = W at *
          refine (C1.out _).mono ?_
          rintro e w1 ⟨rfl, rfl⟩
          go_wp2_with fail
          go_ret
          exact ⟨by rw [HE.out]; rfl, X0.out⟩
  · have HE := Lib.hid (goodB_far (n := n) hd)
    by_cases h1 : d < 1
    · go_enter Tryz.func22, Tryz.ntmps22
      go_wp2_with fail
      go_ret
      exact ⟨by rw [HE.out]; rfl, X0.out⟩
    · have h2 : 1024 < d := by omega
      go_enter Tryz.func22, Tryz.ntmps22
      go_wp2_with fail
      go_ret
      exact ⟨by rw [HE.out]; rfl, X0.out⟩
theorem half_all : ((List.range 1025).all fun c => c ≤ 1 || (if c % 2 == 1 then isP2 c == false else isP2 c == isP2 (c / 2))) = true := by kernel_rfl
theorem isP2_odd {c : Nat} (h1 : 1 < c) (h2 : c ≤ 1024) (h : c % 2 = 1) : isP2 c = false := by
  have := List.all_eq_true.1 half_all c (List.mem_range.2 (by omega))
  simpa [h, show ¬ c ≤ 1 by omega] using this
theorem isP2_even {c : Nat} (h1 : 1 < c) (h2 : c ≤ 1024) (h : ¬ c % 2 = 1) : isP2 c = isP2 (c / 2) := by
  have := List.all_eq_true.1 half_all c (List.mem_range.2 (by omega))
  simpa [h, show ¬ c ≤ 1 by omega] using this
set_option maxHeartbeats 3200000 in
set_option maxRecDepth 100000 in
theorem mpGood_calls (n d : Int) (w : World) :
    Calls Tryz.prog 27 #[.agg #[.int .i64 n, .int .i64 d]] w fun e w' => e = .returned (.bool (goodB n d)) ∧ Ext w w' := by
  have X0 := Lib.hid ((Ext.refl w).alloc (.cells #[.int .i64 n, .int .i64 d] 27))
  obtain ⟨c0, c1⟩ := cells_of (heap_alloc_new w (.cells #[.int .i64 n, .int .i64 d] 27))
  have C1 := Lib.hid (fun W => l1In_calls d 1 1024 W)
  have C2 := Lib.hid (fun W => l1In_calls n 0 d W)
  by_cases hd : 1 ≤ d ∧ d ≤ 1024
  · obtain ⟨c, rfl⟩ : ∃ c : Nat, d = c := ⟨d.toNat, by omega⟩
    rw [decide_eq_true hd] at C1
    by_cases hn : 0 ≤ n ∧ n ≤ (c : Int)
    · rw [decide_eq_true hn] at C2
      have HG : Hid (isP2 c = true → goodB n c = ((c : Int) == 1 || n % 2 == 1)) := fun h => goodB_in (by omega) (by omega) h hn
      have HN : Hid (isP2 c = false → goodB n c = false) := goodB_two
      go_enter Tryz.func27, Tryz.ntmps27
      go_wp2_with fail
      generalize w.alloc (.cells #[.int .i64 n, .int .i64 c] 27) = W at *
      refine (C1.out _).mono ?_
      rintro e w1 ⟨rfl, rfl⟩
      go_wp2_with fail
      refine (C2.out _).mono ?_
      rintro e w1 ⟨rfl, rfl⟩
      go_wp2_with fail
      go_loop [3] (fun v => ∃ b : Nat, 1 ≤ b ∧ b ≤ 1024 ∧ v = .int .i64 b ∧ Hid (isP2 c = isP2 b)) (fun v => (intOf v).toNat)
      case atStart => exact ⟨c, by omega, by omega, rfl, rfl⟩
      case round =>
        obtain ⟨b, hb1, hb2, rfl, HB⟩ := hrel
        by_cases hb : 1 < b
        · have g1 : (1 : Int) < b := by omega
          by_cases ho : b % 2 = 1
          · have HE : Hid (goodB n c = false) := HN.out (by rw [HB.out]; exact isP2_odd hb hb2 ho)
            have t1 : ((b : Int) % 2 == 1) = true := by rw [beq_iff_eq]; omega
            clear ho
            go_wp2_with fail
            go_ret
            exact ⟨by rw [HE.out]; rfl, X0.out⟩
          · have HB2 : Hid (isP2 c = isP2 (b / 2)) := by show _ = _; rw [HB.out]; exact isP2_even hb hb2 ho
            have t1 : ((b : Int) % 2 == 1) = false := by rw [beq_eq_false_iff_ne]; omega
            have hb3 : 1 ≤ b / 2 := by omega
            have hb4 : b / 2 < b := by omega
            have q0 : (b : Int).tdiv 2 = ((b / 2 : Nat) : Int) := by rw [Int.tdiv_eq_ediv_of_nonneg (by omega)]; omega
            generalize b / 2 = h at *
            have hb5 : (h : Int) ≤ 1024 := by omega
            clear ho
            go_wp2_with fail
            exact ⟨⟨h, by omega, by omega, by go_num, HB2.out⟩, by simp [intOf]; omega⟩
        · obtain rfl : b = 1 := by omega
          have HE := Lib.hid (HG.out (by rw [HB.out]; rfl))
          have g1 : ¬ (1 : Int) < (1 : Nat) := by omega
          cases t1 : ((c : Int) == 1) with
          | true =>
            rw [t1] at HE
            go_wp2_with fail
            go_ret
            exact ⟨by rw [HE.out]; rfl, X0.out⟩
          | false =>
            rw [t1] at HE
            go_wp2_with fail
            go_ret
            exact ⟨by rw [HE.out]; rfl, X0.out⟩
    · rw [decide_eq_false hn] at C2
      have HE := Lib.hid (goodB_num hn)
      go_enter Tryz.func27, Tryz.ntmps27
      go_wp2_with fail
      generalize w.alloc (.cells #[.int .i64 n, .int .i64 c] 27) = W at *
      refine (C1.out _).mono ?_
      rintro e w1 ⟨rfl, rfl⟩
      go_wp2_with fail
      refine (C2.out _).mono ?_
      rintro e w1 ⟨rfl, rfl⟩
      go_wp2_with fail
      go_ret
      exact ⟨by rw [HE.out]; rfl, X0.out⟩
  · rw [decide_eq_false hd] at C1
    have HE := Lib.hid (goodB_far (n := n) hd)
    go_enter Tryz.func27, Tryz.ntmps27
    go_wp2_with fail
    generalize w.alloc (.cells #[.int .i64 n, .int .i64 d] 27) = W at *
    refine (C1.out _).mono ?_
    rintro e w1 ⟨rfl, rfl⟩
    go_wp2_with fail
    go_ret
    exact ⟨by rw [HE.out]; rfl, X0.out⟩
end Go.Proofs.YtgnepbogadfinaaGreatDoor.N
namespace Go.Proofs.YtgnepbogadfinaaGreatDoor.N
open Go.RowKit
def Kp (w : World) (o v : Value) (xs : List Value) : Prop := Reads w v xs ∧ (∀ k, o.ownBlock = some k → v.ownBlock ≠ some k) ∧ ∀ k, v.ownBlock = some k → k < w.heap.size
theorem Kp.ext {w w' : World} {o v : Value} {xs : List Value} (h : Kp w o v xs) (hx : Ext w w') : Kp w' o v xs := ⟨h.1.ext hx, h.2.1, fun k hk => Nat.lt_of_lt_of_le (h.2.2 k hk) hx.size⟩
theorem Kp.grown {w w' : World} {o o' v : Value} {xs : List Value} (h : Kp w o v xs) (hg : w.grownBy w' o.ownBlock) (hq : o'.ownBlock = o.ownBlock ∨ o'.ownBlock = some w.heap.size) : Kp w' o' v xs := by
  refine ⟨h.1.far hg h.2.1, fun k hk hv => ?_, fun k hk => Nat.lt_of_lt_of_le (h.2.2 k hk) hg.size⟩
  rcases hq with q | q
  · exact h.2.1 k (q.symm.trans hk) hv
  · have := h.2.2 k hv
    rw [hk] at q
    injection q with q
    omega
section
variable {P : Program}
theorem wp_appK {w : World} {o : Oper} {a : Act} {K : Act → World → Prop} {Q : Exit → Act → World → Prop} (x y : Operand) (t : TypeId)
    (ho : o.op = .call { callee := .builtin .append, args := #[x, y], argTypes := #[t, t] })
    (base : Nat) (e : TypeId) (z : Value) (size bytes : Nat) (ht : P.underlying t = some (.slice e)) (hinfo : (P.info? e).map (fun i => (i.zero, i.size, i.bytes)) = some (some z, size, bytes)) (hz : z.cells.size = size) (hs0 : 0 < size)
    (v : Value) (n m c : Nat) (ad : Addr) (xs news : List Value) (hx : a.eval x = v) (hy : a.eval y = .slice (some ad) m c) (hown : w.ownsRow base e size v n xs) (hl : news.length = m * size) (hnews : ∀ j u, news[j]? = some u → w.cell? (ad.add j) = some u) (h1 : ∀ u ∈ news, u.oneCell' = true)
    (h63 : n + m ≤ maxLen) (hbytes : (n + m) * bytes ≤ 140737488355328) (hbase : base ≤ w.heap.size)
    (h : ∀ v' w', w'.ownsRow base e size v' (n + m) (xs ++ news) → w.grownBy w' v.ownBlock → (v'.ownBlock = v.ownBlock ∨ v'.ownBlock = some w.heap.size) → K (a.put o.dst v') w') : o.wp P a w K Q := by
  obtain ⟨i, hi, hzz⟩ := Option.map_eq_some_iff.1 hinfo
  simp only [Prod.mk.injEq] at hzz
  obtain ⟨hz0, hz1, hz2⟩ := hzz
  obtain ⟨v', w', hr, h2, h3, _, h5⟩ := run_append_own_at (P := P) w base t o.type e i z size bytes ht hi hz0 hz1 hz2 hz hs0 v n xs hown ad m c news hl hnews h1 h63 hbytes hbase
  unfold Oper.wp execOp
  simp only [ho, resolve, invoke, builtin, Sem.run_bind, Sem.run_pure, Result.andThen_ok, List.map_toArray, List.map_cons, List.map_nil, hx, hy, hr]
  exact h v' w' h2 h3 h5
theorem wpList_appK {w : World} {ops : Array Oper} {rest : List Oper} {o : Oper} {a : Act} {Q : Exit → Act → World → Prop} (hgd : o.guard = none) (x y : Operand) (t : TypeId)
    (ho : o.op = .call { callee := .builtin .append, args := #[x, y], argTypes := #[t, t] })
    (base : Nat) (e : TypeId) (z : Value) (size bytes : Nat) (ht : P.underlying t = some (.slice e)) (hinfo : (P.info? e).map (fun i => (i.zero, i.size, i.bytes)) = some (some z, size, bytes)) (hz : z.cells.size = size) (hs0 : 0 < size)
    (v : Value) (n m c : Nat) (ad : Addr) (xs news : List Value) (hx : a.eval x = v) (hy : a.eval y = .slice (some ad) m c) (hown : w.ownsRow base e size v n xs) (hl : news.length = m * size) (hnews : ∀ j u, news[j]? = some u → w.cell? (ad.add j) = some u) (h1 : ∀ u ∈ news, u.oneCell' = true)
    (h63 : n + m ≤ maxLen) (hbytes : (n + m) * bytes ≤ 140737488355328) (hbase : base ≤ w.heap.size)
    (h : ∀ v' w', w'.ownsRow base e size v' (n + m) (xs ++ news) → w.grownBy w' v.ownBlock → (v'.ownBlock = v.ownBlock ∨ v'.ownBlock = some w.heap.size) → wpList P ops Q rest (a.put o.dst v') w') : wpList P ops Q (o :: rest) a w :=
  wpList_plain hgd fun _ hK => wp_appK x y t ho base e z size bytes ht hinfo hz hs0 v n m c ad xs news hx hy hown hl hnews h1 h63 hbytes hbase fun v' w' h2 h3 h4 => hK _ _ (h v' w' h2 h3 h4)
theorem step_appK {w : World} {ops : Array Oper} {o : Oper} {a : Act} {K : Act → World → Prop} {Q : Exit → Act → World → Prop} {E : Prop} (hgd : o.guard = none) (x y : Operand) (t : TypeId)
    (ho : o.op = .call { callee := .builtin .append, args := #[x, y], argTypes := #[t, t] })
    (base : Nat) (e : TypeId) (z : Value) (size bytes : Nat) (ht : P.underlying t = some (.slice e)) (hinfo : (P.info? e).map (fun i => (i.zero, i.size, i.bytes)) = some (some z, size, bytes)) (hz : z.cells.size = size) (hs0 : 0 < size)
    (v : Value) (n m c : Nat) (ad : Addr) (xs news : List Value) (hx : a.eval x = v) (hy : a.eval y = .slice (some ad) m c) (hown : w.ownsRow base e size v n xs) (hl : news.length = m * size) (hnews : ∀ j u, news[j]? = some u → w.cell? (ad.add j) = some u) (h1 : ∀ u ∈ news, u.oneCell' = true)
    (h63 : n + m ≤ maxLen) (hbytes : (n + m) * bytes ≤ 140737488355328) (hbase : base ≤ w.heap.size)
    (h : ∀ v' w', w'.ownsRow base e size v' (n + m) (xs ++ news) → w.grownBy w' v.ownBlock → (v'.ownBlock = v.ownBlock ∨ v'.ownBlock = some w.heap.size) → K (a.put o.dst v') w') :
    if Region.wanted o (yielded ops a.tmps) = true then Oper.wp P o a w K Q else E := by
  have hw : Region.wanted o (yielded ops a.tmps) = true := by simp [Region.wanted, hgd]
  rw [if_pos hw]
  exact wp_appK x y t ho base e z size bytes ht hinfo hz hs0 v n m c ad xs news hx hy hown hl hnews h1 h63 hbytes hbase h
theorem new_cells (w : World) (cs : Array Value) (t : TypeId) : ∀ j u, cs.toList[j]? = some u → (w.alloc (.cells cs t)).cell? ((⟨w.heap.size, 0, none⟩ : Addr).add j) = some u := by
  intro j u hu
  rw [add_plain, cell_of_row _ w.heap.size j cs t (0, 0) (heap_alloc_new w _)]
  simpa using hu
theorem row_mono {w : World} {base base' : Nat} {e : TypeId} {sz n : Nat} {v : Value} {xs : List Value} (h : w.ownsRow base e sz v n xs) (hb : base' ≤ base) : w.ownsRow base' e sz v n xs := by
  refine ⟨h.1, ?_⟩
  rcases h.2 with h0 | ⟨g, cap, cur, h1, h2, h3⟩
  · exact .inl h0
  · exact .inr ⟨g, cap, cur, h1, Nat.le_trans hb h2, h3⟩
theorem new_slice_cell {w : World} {base : Nat} {e : TypeId} {size : Nat} {v : Value} {n : Nat} {xs : List Value} (h : w.ownsRow base e size v n xs) (hn : 0 < n) : ∃ g cap, v = .slice (some ⟨g, 0, none⟩) n cap ∧ ∀ j u, xs[j]? = some u → w.cell? ⟨g, j, none⟩ = some u := by
  rcases h.2 with ⟨rfl, h0⟩ | ⟨g, cap, cur, rfl, _⟩
  · omega
  · exact ⟨g, cap, rfl, fun j u hu => by rw [← add_plain]; exact h.cells rfl j u hu⟩
end
end Go.Proofs.YtgnepbogadfinaaGreatDoor.N
namespace Go.Proofs.YtgnepbogadfinaaGreatDoor.N
open Go.RowKit
def TabR (w : World) (v : Value) (n : Nat) (g : Nat → Nat → Nat) : Prop :=
  ∃ (ad : Addr) (c : Nat) (bd : Nat → Addr) (cc : Nat → Nat), v = .slice (some ad) n c ∧ (∀ i, i < n → w.cell? (ad.add i) = some (.slice (some (bd i)) n (cc i))) ∧ ∀ i j, i < n → j < n → w.cell? ((bd i).add j) = some (.int .i64 (g i j))
theorem TabR.ext {w w' : World} {v : Value} {n : Nat} {g : Nat → Nat → Nat} (h : TabR w v n g) (hx : Ext w w') : TabR w' v n g := by
  obtain ⟨ad, c, bd, cc, e, h1, h2⟩ := h
  exact ⟨ad, c, bd, cc, e, fun i hi => hx.cell (h1 i hi), fun i j hi hj => hx.cell (h2 i j hi hj)⟩
end Go.Proofs.YtgnepbogadfinaaGreatDoor.N
