import Derived.Test.YtpmmajfdcicjiaaBa
import Derived.Test.YtpmmajfdcicjiaaPu
import Derived.Test.YtpmmajfdcicjiaaSl
import Derived.Test.YtpmmajfdcicjiaaProg
import Derived.Test.YtpmmajfdcicjiaaTn
import Derived.Test.YtpmmajfdcicjiaaPp
import Derived.Test.YtpmmajfdcicjiaaWl
import Derived.Deep.LoopGhost
/- Exposed carets and pairs, as the program has them. -/
namespace Go.Proofs.Ytpmmajfdcicjiaa.N
open Go.RowKit
set_option linter.unusedVariables false
set_option linter.unusedSimpArgs false

theorem infoInt : (Try.prog.info? 3).map (fun i => (i.zero, i.size, i.bytes)) = some (some (.int .i64 0), 1, 8) := by kernel_rfl

def nats (xs : List Nat) : List Value := ints (xs.map fun (n : Nat) => (n : Int))
theorem nats_length (xs : List Nat) : (nats xs).length = xs.length := by simp [nats, ints]
theorem nats_append (xs ys : List Nat) : nats xs ++ nats ys = nats (xs ++ ys) := by simp [nats, ints]
theorem nats_one (xs : List Nat) : ∀ u ∈ nats xs, u.oneCell' = true := ints_one _
theorem nats_get (xs : List Nat) (k : Nat) (h : k < xs.length) : (nats xs)[k]? = some (.int .i64 (xs[k] : Nat)) := by simp [nats, ints, List.getElem?_eq_getElem h]
/-- Numbers of the call's own. -/
def GivesN (w : World) (xs : List Nat) (e : Ending) (w' : World) : Prop := ∃ v, e = .returned v ∧ Own w' w.heap.size 3 v (nats xs) ∧ Ext w w'

set_option maxHeartbeats 3200000 in
set_option maxRecDepth 100000 in
theorem exposed_calls (T : Tr) : ∀ (k : Nat) (p : Option Addr) (w : World), k + T.carets < 100000000 → Rep w T p →
    Calls Try.prog 184 #[.pointer p, .int .i64 k] w (GivesN w (expo T k)) := by
  induction T with
  | leaf =>
    intro k p w _ hr
    obtain rfl := hr
    go_enter Try.func184, Try.ntmps184
    go_wp2_with fail
    go_ret
    exact ⟨_, rfl, Own.nil _ _ _, Ext.refl _⟩
  | node l r ihl ihr =>
    intro k p w hc hr
    have op := hr.open
    clear hr
    obtain ⟨b, pl, pr, rfl, h0, h1, hl, hr⟩ := op
    by_cases hh : l = .leaf ∧ r = .leaf
    · obtain ⟨rfl, rfl⟩ := hh
      obtain rfl := hl
      obtain rfl := hr
      have o := Own.lit w w.heap.size 3 #[.int .i64 k] (Nat.le_refl _) (by show 1 ≤ maxLen; decide)
      have O := Lib.hid o
      clear o hc ihl ihr
      go_enter Try.func184, Try.ntmps184
      go_wp2_with fail
      go_ret
      exact ⟨_, rfl, O.out, (Ext.refl _).alloc _⟩
    · have hcc : (Tr.node l r).carets = 1 + l.carets + r.carets := rfl
      have e1 : 0 ≤ (l.carets : Int) ∧ (k : Int) + l.carets + 1 < 1000000000 := by omega
      have W1 : Hid ((k : Int) + (l.carets + 1) = ((k + (l.carets + 1) : Nat) : Int)) := by show _ = _; omega
      have W2 : IntKind.i64.wrap ((k : Int) + (l.carets + 1)) = (k : Int) + (l.carets + 1) := wrap_ok (by omega)
      have EN := Lib.hid (expo_node hh k)
      have NL := expo_length l k
      have NR := expo_length r (k + (l.carets + 1))
      have L1 : Hid (((nats (expo l k)).length + (nats (expo r (k + (l.carets + 1)))).length) * 8 ≤ 140737488355328) := by show _ ≤ _; rw [nats_length, nats_length]; omega
      have H := Lib.hid (And.intro hl hr)
      have HC : Hid (k + l.carets < 100000000 ∧ k + (l.carets + 1) + r.carets < 100000000 ∧ l.carets < 1000000000) := ⟨by omega, by omega, by omega⟩
      clear hc hcc NL NR
      cases l with
      | leaf =>
        obtain rfl := hl
        cases r with
        | leaf => exact absurd ⟨rfl, rfl⟩ hh
        | node x y =>
          obtain ⟨b2, px, py, e2, _⟩ := hr
          subst e2
          clear hh
          go_enter Try.func184, Try.ntmps184
          go_wp2_with fail
          go_region_held3 (fun w' => w'.cell? ⟨b, 0, none⟩ = some (.pointer none) ∧ w'.cell? ⟨b, 1, none⟩ = some (.pointer (some ⟨b2, 0, none⟩)) ∧ Ext w w')
            (first | exact two_cells h0 h1 (Ext.drew (Ext.refl _)) | exact two_cells h0 h1 x4 | exact two_cells h0 h1 x3 | exact two_cells h0 h1 x2 | exact two_cells h0 h1 x1 | fail)
            (first
              | (go_at_call 80; refine (leaves_calls .leaf _ _ HC.out.2.2 (H.out.1.ext x1)).mono ?_; rintro e w2 ⟨rfl, n2, rfl⟩; have x2 := x1.drewN n2)
              | (go_at_call_of 184 (Value.pointer none); refine (ihl _ _ _ HC.out.1 (H.out.1.ext (Ext.refl _).drew)).mono ?_; rintro e w1 ⟨v1, rfl, o1, hx1⟩; have x1 := (Ext.refl w).drew.trans hx1)
              | (go_at_call_of 184 (Value.pointer (some ⟨b2, 0, none⟩)); rw [W1.out]; refine (ihr _ _ _ HC.out.2.1 (H.out.2.ext x2)).mono ?_; rintro e w3 ⟨v3, rfl, o3, hx3⟩; have x3 := x2.trans hx3)
              | (refine step_app (by rfl) (.tmp 26) (.tmp 38) 32 (by rfl) w.heap.size 3 (.int .i64 0) 8 Try.underlying32 infoInt rfl (by omega) _ _ (nats (expo .leaf k)) (nats (expo (.node x y) (k + (Tr.leaf.carets + 1)))) (by rfl) (by rfl) (((o1.ext ((Ext.refl _).drewN n2)).ext hx3).mono ((Ext.refl w).drew).size) o3.reads (nats_one _) L1.out x3.size ?_; intro v4 w4 o4 g4 _; have x4 := x3.grown g4 (fun q hq => Nat.le_trans ((Ext.refl w).drew).size (o1.lo q hq)))
              | fail)
          go_wp2_with fail
          go_ret
          refine ⟨_, rfl, ?_, x4⟩
          rw [EN.out]
          rw [nats_append] at o4
          exact o4
      | node x y =>
        obtain ⟨b2, px, py, e2, _⟩ := hl
        subst e2
        clear hh hr
        go_enter Try.func184, Try.ntmps184
        go_wp2_with fail
        go_region_held3 (fun w' => w'.cell? ⟨b, 0, none⟩ = some (.pointer (some ⟨b2, 0, none⟩)) ∧ w'.cell? ⟨b, 1, none⟩ = some (.pointer pr) ∧ Ext w w')
          (first | exact two_cells h0 h1 (Ext.drew (Ext.refl _)) | exact two_cells h0 h1 x4 | exact two_cells h0 h1 x3 | exact two_cells h0 h1 x2 | exact two_cells h0 h1 x1 | fail)
          (first
            | (go_at_call 80; refine (leaves_calls (.node x y) _ _ HC.out.2.2 (H.out.1.ext x1)).mono ?_; rintro e w2 ⟨rfl, n2, rfl⟩; have x2 := x1.drewN n2)
            | (go_at_call_of 184 (Value.pointer (some ⟨b2, 0, none⟩)); refine (ihl _ _ _ HC.out.1 (H.out.1.ext (Ext.refl _).drew)).mono ?_; rintro e w1 ⟨v1, rfl, o1, hx1⟩; have x1 := (Ext.refl w).drew.trans hx1)
            | (go_at_call_of 184 (Value.pointer pr); rw [W1.out]; refine (ihr _ _ _ HC.out.2.1 (H.out.2.ext x2)).mono ?_; rintro e w3 ⟨v3, rfl, o3, hx3⟩; have x3 := x2.trans hx3)
            | (refine step_app (by rfl) (.tmp 26) (.tmp 38) 32 (by rfl) w.heap.size 3 (.int .i64 0) 8 Try.underlying32 infoInt rfl (by omega) _ _ (nats (expo (.node x y) k)) (nats (expo r (k + ((Tr.node x y).carets + 1)))) (by rfl) (by rfl) (((o1.ext ((Ext.refl _).drewN n2)).ext hx3).mono ((Ext.refl w).drew).size) o3.reads (nats_one _) L1.out x3.size ?_; intro v4 w4 o4 g4 _; have x4 := x3.grown g4 (fun q hq => Nat.le_trans ((Ext.refl w).drew).size (o1.lo q hq)))
            | fail)
        go_wp2_with fail
        go_ret
        refine ⟨_, rfl, ?_, x4⟩
        rw [EN.out]
        rw [nats_append] at o4
        exact o4

set_option maxHeartbeats 3200000 in
set_option maxRecDepth 100000 in
theorem without_calls (T : Tr) : ∀ (k : Nat) (p : Option Addr) (w : World), T.carets < 100000000 → k ∈ expo T 0 → Rep w T p →
    Calls Try.prog 196 #[.pointer p, .int .i64 k] w (GivesT w (without T k)) := by
  induction T with
  | leaf => intro k p w _ hk; cases hk
  | node l r ihl ihr =>
    intro k p w hc hk hr
    have op := hr.open
    clear hr
    obtain ⟨b, pl, pr, rfl, h0, h1, hl, hr⟩ := op
    by_cases hh : l = .leaf ∧ r = .leaf
    · obtain ⟨rfl, rfl⟩ := hh
      obtain rfl := hl
      obtain rfl := hr
      clear hc hk ihl ihr
      go_enter Try.func196, Try.ntmps196
      go_wp2_with fail
      go_ret
      exact ⟨_, rfl, rfl, Ext.refl _⟩
    · have H := Lib.hid (And.intro hl hr)
      cases l with
      | leaf =>
        obtain rfl := hl
        cases r with
        | leaf => exact absurd ⟨rfl, rfl⟩ hh
        | node x y =>
          obtain ⟨b2, px, py, e2, _⟩ := hr
          subst e2
          have HC2 := hc
          rcases mem_expo_node hh hk with ⟨k1, k2⟩ | ⟨k1, k2⟩
          · have t1 : (k : Int) < Tr.leaf.carets + 1 := by omega
            have EN : Hid (without (.node .leaf (.node x y)) k = .node (without .leaf k) (.node x y)) := by show _ = _; rw [without_node hh, if_neg (by omega)]
            have HC : Hid (Tr.leaf.carets < 1000000000 ∧ Tr.leaf.carets < 100000000 ∧ k ∈ expo .leaf 0) := ⟨by simp only [Tr.carets] at hc ⊢; omega, by simp only [Tr.carets] at hc ⊢; omega, k2⟩
            have W1 : Hid ((k : Int) = k) := rfl
            have c0 : 0 ≤ (Tr.leaf.carets : Int) ∧ (Tr.leaf.carets : Int) < 1000000000 := by have := HC.out.1; omega
            clear hc hk k1 k2 hh HC2
            go_enter Try.func196, Try.ntmps196
            go_wp2_with fail
            refine (leaves_calls .leaf _ _ HC.out.1 H.out.1).mono ?_
            rintro e w1 ⟨rfl, n1, rfl⟩
            go_wp2_with fail
            go_region_held3 (fun w' => w'.cell? ⟨b, 0, none⟩ = some (.pointer none) ∧ w'.cell? ⟨b, 1, none⟩ = some (.pointer (some ⟨b2, 0, none⟩)) ∧ Ext w w')
              (first | exact two_cells h0 h1 ((Ext.refl _).drewN n1).drew | exact two_cells h0 h1 ((Ext.refl _).drewN _) | exact two_cells h0 h1 (x3.alloc _) | exact two_cells h0 h1 x3 | fail)
              (first
                | (go_at_call 196; refine (ihl _ _ _ HC.out.2.1 HC.out.2.2 (H.out.1.ext (by first | exact ((Ext.refl _).drewN n1).drew | exact ((Ext.refl _).drewN _) | fail))).mono ?_; rintro e w3 ⟨p3, rfl, r3, hx3⟩; have x3 : Ext w w3 := (by first | exact ((Ext.refl w).drewN n1).drew.trans hx3 | exact ((Ext.refl w).drewN _).trans hx3 | fail))
                | fail)
            go_wp2_with fail
            go_ret
            rw [EN.out]
            exact ⟨_, rfl, Rep.made r3 (H.out.2.ext x3), x3.alloc _⟩
          · have t1 : ¬ (k : Int) < Tr.leaf.carets + 1 := by omega
            have t2 : ((Tr.leaf.carets : Int) + 1) ≤ k := by omega
            have EN : Hid (without (.node .leaf (.node x y)) k = .node .leaf (without (.node x y) (k - (Tr.leaf.carets + 1)))) := by show _ = _; rw [without_node hh, if_pos k1]
            have HC : Hid (Tr.leaf.carets < 1000000000 ∧ (Tr.node x y).carets < 100000000 ∧ k - (Tr.leaf.carets + 1) ∈ expo (.node x y) 0) := ⟨by simp only [Tr.carets] at hc ⊢; omega, by simp only [Tr.carets] at hc ⊢; omega, k2⟩
            have W1 : Hid ((k : Int) - (Tr.leaf.carets + 1) = ((k - (Tr.leaf.carets + 1) : Nat) : Int)) := by show _ = _; omega
            have c0 : 0 ≤ (Tr.leaf.carets : Int) ∧ (Tr.leaf.carets : Int) < 1000000000 := by have := HC.out.1; omega
            have c1 : (k : Int) < 1000000000 := by have := (expo_range _ _ _ hk).2.1; omega
            have W2 : IntKind.i64.wrap ((k : Int) - (Tr.leaf.carets + 1)) = (k : Int) - (Tr.leaf.carets + 1) := wrap_ok (by omega)
            clear hc hk k1 k2 hh HC2
            go_enter Try.func196, Try.ntmps196
            go_wp2_with fail
            refine (leaves_calls .leaf _ _ HC.out.1 H.out.1).mono ?_
            rintro e w1 ⟨rfl, n1, rfl⟩
            go_wp2_with fail
            go_region_held3 (fun w' => w'.cell? ⟨b, 0, none⟩ = some (.pointer none) ∧ w'.cell? ⟨b, 1, none⟩ = some (.pointer (some ⟨b2, 0, none⟩)) ∧ Ext w w')
              (first | exact two_cells h0 h1 ((Ext.refl _).drewN n1).drew | exact two_cells h0 h1 ((Ext.refl _).drewN _) | exact two_cells h0 h1 (x3.alloc _) | exact two_cells h0 h1 x3 | fail)
              (first
                | (go_at_call 196; rw [W1.out]; refine (ihr _ _ _ HC.out.2.1 HC.out.2.2 (H.out.2.ext (by first | exact ((Ext.refl _).drewN n1).drew | exact ((Ext.refl _).drewN _) | fail))).mono ?_; rintro e w3 ⟨p3, rfl, r3, hx3⟩; have x3 : Ext w w3 := (by first | exact ((Ext.refl w).drewN n1).drew.trans hx3 | exact ((Ext.refl w).drewN _).trans hx3 | fail))
                | fail)
            go_wp2_with fail
            go_ret
            rw [EN.out]
            exact ⟨_, rfl, Rep.made (H.out.1.ext x3) r3, x3.alloc _⟩
      | node x y =>
        obtain ⟨b2, px, py, e2, _⟩ := hl
        subst e2
        clear hr
        have HC2 := hc
        rcases mem_expo_node hh hk with ⟨k1, k2⟩ | ⟨k1, k2⟩
        · have t1 : (k : Int) < (Tr.node x y).carets + 1 := by omega
          have EN : Hid (without (.node (.node x y) r) k = .node (without (.node x y) k) r) := by show _ = _; rw [without_node hh, if_neg (by omega)]
          have HC : Hid ((Tr.node x y).carets < 1000000000 ∧ (Tr.node x y).carets < 100000000 ∧ k ∈ expo (.node x y) 0) := ⟨by simp only [Tr.carets] at hc ⊢; omega, by simp only [Tr.carets] at hc ⊢; omega, k2⟩
          have W1 : Hid ((k : Int) = k) := rfl
          have c0 : 0 ≤ ((Tr.node x y).carets : Int) ∧ ((Tr.node x y).carets : Int) < 1000000000 := by have := HC.out.1; omega
          clear hc hk k1 k2 hh HC2
          go_enter Try.func196, Try.ntmps196
          go_wp2_with fail
          refine (leaves_calls (.node x y) _ _ HC.out.1 H.out.1).mono ?_
          rintro e w1 ⟨rfl, n1, rfl⟩
          go_wp2_with fail
          go_region_held3 (fun w' => w'.cell? ⟨b, 0, none⟩ = some (.pointer (some ⟨b2, 0, none⟩)) ∧ w'.cell? ⟨b, 1, none⟩ = some (.pointer pr) ∧ Ext w w')
            (first | exact two_cells h0 h1 ((Ext.refl _).drewN n1).drew | exact two_cells h0 h1 ((Ext.refl _).drewN _) | exact two_cells h0 h1 (x3.alloc _) | exact two_cells h0 h1 x3 | fail)
            (first
              | (go_at_call 196; refine (ihl _ _ _ HC.out.2.1 HC.out.2.2 (H.out.1.ext (by first | exact ((Ext.refl _).drewN n1).drew | exact ((Ext.refl _).drewN _) | fail))).mono ?_; rintro e w3 ⟨p3, rfl, r3, hx3⟩; have x3 : Ext w w3 := (by first | exact ((Ext.refl w).drewN n1).drew.trans hx3 | exact ((Ext.refl w).drewN _).trans hx3 | fail))
              | fail)
          go_wp2_with fail
          go_ret
          rw [EN.out]
          exact ⟨_, rfl, Rep.made r3 (H.out.2.ext x3), x3.alloc _⟩
        · have t1 : ¬ (k : Int) < (Tr.node x y).carets + 1 := by omega
          have t2 : (((Tr.node x y).carets : Int) + 1) ≤ k := by omega
          have EN : Hid (without (.node (.node x y) r) k = .node (.node x y) (without r (k - ((Tr.node x y).carets + 1)))) := by show _ = _; rw [without_node hh, if_pos k1]
          have HC : Hid ((Tr.node x y).carets < 1000000000 ∧ (r).carets < 100000000 ∧ k - ((Tr.node x y).carets + 1) ∈ expo r 0) := ⟨by simp only [Tr.carets] at hc ⊢; omega, by simp only [Tr.carets] at hc ⊢; omega, k2⟩
          have W1 : Hid ((k : Int) - ((Tr.node x y).carets + 1) = ((k - ((Tr.node x y).carets + 1) : Nat) : Int)) := by show _ = _; omega
          have c0 : 0 ≤ ((Tr.node x y).carets : Int) ∧ ((Tr.node x y).carets : Int) < 1000000000 := by have := HC.out.1; omega
          have c1 : (k : Int) < 1000000000 := by have := (expo_range _ _ _ hk).2.1; omega
          have W2 : IntKind.i64.wrap ((k : Int) - ((Tr.node x y).carets + 1)) = (k : Int) - ((Tr.node x y).carets + 1) := wrap_ok (by omega)
          clear hc hk k1 k2 hh HC2
          go_enter Try.func196, Try.ntmps196
          go_wp2_with fail
          refine (leaves_calls (.node x y) _ _ HC.out.1 H.out.1).mono ?_
          rintro e w1 ⟨rfl, n1, rfl⟩
          go_wp2_with fail
          go_region_held3 (fun w' => w'.cell? ⟨b, 0, none⟩ = some (.pointer (some ⟨b2, 0, none⟩)) ∧ w'.cell? ⟨b, 1, none⟩ = some (.pointer pr) ∧ Ext w w')
            (first | exact two_cells h0 h1 ((Ext.refl _).drewN n1).drew | exact two_cells h0 h1 ((Ext.refl _).drewN _) | exact two_cells h0 h1 (x3.alloc _) | exact two_cells h0 h1 x3 | fail)
            (first
              | (go_at_call 196; rw [W1.out]; refine (ihr _ _ _ HC.out.2.1 HC.out.2.2 (H.out.2.ext (by first | exact ((Ext.refl _).drewN n1).drew | exact ((Ext.refl _).drewN _) | fail))).mono ?_; rintro e w3 ⟨p3, rfl, r3, hx3⟩; have x3 : Ext w w3 := (by first | exact ((Ext.refl w).drewN n1).drew.trans hx3 | exact ((Ext.refl w).drewN _).trans hx3 | fail))
              | fail)
          go_wp2_with fail
          go_ret
          rw [EN.out]
          exact ⟨_, rfl, Rep.made (H.out.1.ext x3) r3, x3.alloc _⟩
end Go.Proofs.Ytpmmajfdcicjiaa.N
