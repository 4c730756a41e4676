import Derived.Test.YtfjhecilkeikiaaG1RFnExactRootsOf
import Derived.Test.YtfjhecilkeikiaaG2RFnExactRootsOf
import Derived.Test.YtfjhecilkeikiaaProg
/- The methods of trees, as the Go text has them: each returns what its Lean function tells, for every tree that lies in memory. -/
namespace Go.Proofs.Ytfjhecilkeikiaa.N
open Go.RowKit
set_option linter.unusedVariables false
set_option linter.unusedSimpArgs false

set_option maxHeartbeats 1600000 in
set_option maxRecDepth 100000 in
theorem carets_calls (T : Tr) : ∀ (p : Option Addr) (w : World), T.carets < 1000000000 → Rep w T p →
    Calls Try.prog 80 #[.pointer p] w fun e w' => e = .returned (.int .i64 T.carets) ∧ ∃ n, w' = w.drewN n := by
  induction T with
  | leaf =>
    rintro p w _ rfl
    go_enter Try.func80, Try.ntmps80
    go_wp2
    go_ret
    exact ⟨rfl, 0, rfl⟩
  | node l r ihl ihr =>
    rintro p w hb hr
    have op := hr.open
    clear hr
    obtain ⟨b, pl, pr, rfl, h0, h1, hl, hr⟩ := op
    have H : Hid (_ ∧ _ ∧ _) := Lib.hid (And.intro hl (And.intro hr hb))
    have hbl : 0 ≤ (l.carets : Int) ∧ (l.carets : Int) < 1000000000 := by simp only [Tr.carets] at hb; omega
    have hbr : 0 ≤ (r.carets : Int) ∧ (r.carets : Int) < 1000000000 := by simp only [Tr.carets] at hb; omega
    have hbs : (l.carets : Int) + (r.carets : Int) < 1000000000 := by simp only [Tr.carets] at hb; omega
    clear hl hr hb
    go_enter Try.func80, Try.ntmps80
    go_wp2_with fail
    go_quiet (first
      | (go_at_call_of 80 (Value.pointer pl); refine Calls.quiet_of (ihl _ _ (by omega) ?_); exact H.out.1.ext ((Ext.refl _).drewN _))
      | (go_at_call_of 80 (Value.pointer pr); refine Calls.quiet_of (ihr _ _ (by omega) ?_); exact H.out.2.1.ext ((Ext.refl _).drewN _)))
    go_wp2_with fail
    go_ret
    exact ⟨by simp [Tr.carets], nq, rfl⟩

set_option maxHeartbeats 1600000 in
set_option maxRecDepth 100000 in
theorem leaves_calls (T : Tr) (p : Option Addr) (w : World) (hb : T.carets < 1000000000) (hr : Rep w T p) :
    Calls Try.prog 108 #[.pointer p] w fun e w' => e = .returned (.int .i64 (T.carets + 1)) ∧ ∃ n, w' = w.drewN n := by
  have hb' : 0 ≤ (T.carets : Int) ∧ (T.carets : Int) < 1000000000 := by omega
  have H := Lib.hid hr
  clear hr hb
  go_enter Try.func108, Try.ntmps108
  go_wp2_with fail
  refine (carets_calls T _ _ (by omega) H.out).mono ?_
  rintro e w1 ⟨rfl, n, rfl⟩
  go_wp2_with fail
  go_ret
  exact ⟨rfl, n, rfl⟩

set_option maxHeartbeats 1600000 in
set_option maxRecDepth 100000 in
theorem text_calls (T : Tr) : ∀ (p : Option Addr) (w : World), T.carets < 1000000000 → Rep w T p →
    Calls Try.prog 84 #[.pointer p] w fun e w' => e = .returned (.string (tx T)) ∧ ∃ n, w' = w.drewN n := by
  induction T with
  | leaf =>
    rintro p w _ rfl
    go_enter Try.func84, Try.ntmps84
    go_wp2
    go_ret
    exact ⟨rfl, 0, rfl⟩
  | node l r ihl ihr =>
    rintro p w hb hr
    have op := hr.open
    clear hr
    obtain ⟨b, pl, pr, rfl, h0, h1, hl, hr⟩ := op
    have H : Hid (_ ∧ _ ∧ _) := Lib.hid (And.intro hl (And.intro hr hb))
    have zl : (tx l).size ≤ 3000000000 := by have := l.txt_length; simp only [Tr.carets] at hb; show l.txt.length ≤ _; omega
    have zr : (tx r).size ≤ 3000000000 := by have := r.txt_length; simp only [Tr.carets] at hb; show r.txt.length ≤ _; omega
    have bl : l.carets < 1000000000 := by simp only [Tr.carets] at hb; omega
    have br : r.carets < 1000000000 := by simp only [Tr.carets] at hb; omega
    have E := Lib.hid (tx_node l r)
    clear hl hr hb
    go_enter Try.func84, Try.ntmps84
    go_wp2_with fail
    go_quiet (first
      | (go_at_call_of 84 (Value.pointer pl); refine Calls.quiet_of (ihl _ _ bl ?_); exact H.out.1.ext ((Ext.refl _).drewN _))
      | (go_at_call_of 84 (Value.pointer pr); refine Calls.quiet_of (ihr _ _ br ?_); exact H.out.2.1.ext ((Ext.refl _).drewN _)))
    go_wp2_with fail
    go_ret
    exact ⟨by rw [E.out]; rfl, nq, rfl⟩

def ReadPost (w : World) (o : Option (Tr × List UInt8)) (e : Ending) (w' : World) : Prop :=
  Ext w w' ∧ match o with
  | none => e = .returned (.tuple #[.pointer none, .string (S []), .bool false])
  | some (T, l) => ∃ p, e = .returned (.tuple #[.pointer p, .string (S l), .bool true]) ∧ Rep w' T p

set_option maxHeartbeats 1600000 in
set_option maxRecDepth 100000 in
theorem read_calls (n : Nat) : ∀ (l : List UInt8) (s : ByteArray) (w : World), l.length < n → n < 100000 → s = S l → 
    Calls Try.prog 107 #[.string s] w (ReadPost w (rd n l)) := by
  induction n with
  | zero => intro l s w h; omega
  | succ n ih =>
    intro l s w hl hn hs
    cases l with
    | nil =>
      have e0 : (s.toList == []) = true := by rw [hs, S_toList]; rfl
      clear hs
      go_enter Try.func107, Try.ntmps107
      go_wp2
      go_ret3
      exact ⟨Ext.refl _, rfl⟩
    | cons c l =>
      have e0 : (s.toList == []) = false := by rw [hs, S_toList]; rfl
      have z0 : 0 < s.size := by rw [hs, S_size]; simp
      have z1 : (1 : Int) ≤ s.size := by omega
      have x0 : ∀ h : 0 < s.size, ((s[0]'h).toNat : Int) = (c.toNat : Int) := by subst hs; intro h; rfl
      have Ht : Hid (s.extract 1 s.size = S l) := by subst hs; exact S_tail c l
      by_cases c1 : c = 46
      · have t1 : ((c.toNat : Int) == 46) = true := by subst c1; rfl
        have hR : Hid (rd (n + 1) (c :: l) = some (.leaf, l)) := by subst c1; rfl
        clear hs
        go_enter Try.func107, Try.ntmps107
        go_wp2
        go_quiet (fail)
        go_wp2
        go_ret3
        rw [hR.out]
        exact ⟨(Ext.refl _).drewN _, none, by rw [← Ht.out]; rfl, rfl⟩
      · have t1 : ((c.toNat : Int) == 46) = false := byte_ne c1
        by_cases c2 : c = 40
        · have t2 : ((c.toNat : Int) != 40) = false := by subst c2; rfl
          have hR : Hid (rd (n + 1) (c :: l) = match rd n l with
              | none => none
              | some (a, l1) => match rd n l1 with
                | some (b, 41 :: l3) => some (.node a b, l3)
                | _ => none) := by subst c2; rfl
          have hl' : l.length < n := by simpa using hl
          have hlen : ∀ T r, rd n l = some (T, r) → r.length < n := fun T r h => Nat.lt_of_le_of_lt (rd_length h) hl'
          clear hs hl
          go_enter Try.func107, Try.ntmps107
          go_wp2_with fail
          refine (ih l _ _ hl' (by omega) Ht.out).mono ?_
          generalize rd n l = o at *
          rintro e w1 ⟨hx1, hp⟩
          cases o with
          | none =>
            obtain rfl := hp
            go_wp2_with fail
            go_ret3
            rw [hR.out]
            exact ⟨hx1, rfl⟩
          | some ab =>
            obtain ⟨A, l1⟩ := ab
            obtain ⟨p, rfl, hp⟩ := hp
            have hl1 := hlen A l1 rfl
            clear hlen
            go_wp2_with fail
            refine (ih l1 _ _ hl1 (by omega) rfl).mono ?_
            generalize rd n l1 = o at *
            rintro e w2 ⟨hx2, hp2⟩
            cases o with
            | none =>
              obtain rfl := hp2
              go_wp2_with fail
              go_ret3
              rw [hR.out]
              exact ⟨hx1.trans hx2, rfl⟩
            | some ab =>
              obtain ⟨B, l2⟩ := ab
              obtain ⟨q, rfl, hq⟩ := hp2
              cases l2 with
              | nil =>
                have f0 := S_nil
                go_wp2_with fail
                go_ret3
                rw [hR.out]
                exact ⟨hx1.trans hx2, rfl⟩
              | cons d l3 =>
                obtain ⟨f0, z0, z1, x0, Ht⟩ := S_facts d l3
                generalize S (d :: l3) = s2 at *
                by_cases c3 : d = 41
                · have t3 : ((d.toNat : Int) != 41) = false := by subst c3; rfl
                  have HR := Lib.hid (And.intro (hp.ext hx2) (And.intro hq (hx1.trans hx2)))
                  clear hp hq hx1 hx2
                  go_wp2_with fail
                  go_region
                  go_wp2_with fail
                  go_ret3
                  rw [hR.out]
                  subst c3
                  exact ⟨(HR.out.2.2.alloc _).drew, _, by rw [← Ht.out]; rfl, (Rep.made HR.out.1 HR.out.2.1).ext ((Ext.refl _).drew)⟩
                · have t3 : ((d.toNat : Int) != 41) = true := byte_bne c3
                  go_wp2_with fail
                  go_ret3
                  rw [hR.out]
                  have : (match (some (B, d :: l3) : Option (Tr × List UInt8)) with | some (b, 41 :: l3) => some (Tr.node A b, l3) | _ => none) = none := by
                    split
                    · rename_i h; simp at h; exact absurd h.2.1 c3
                    · rfl
                  rw [this]
                  exact ⟨hx1.trans hx2, rfl⟩
        · have t2 : ((c.toNat : Int) != 40) = true := byte_bne c2
          have hR : Hid (rd (n + 1) (c :: l) = none) := by simp [Hid, rd, c1, c2]
          clear hs
          go_enter Try.func107, Try.ntmps107
          go_wp2
          go_ret3
          rw [hR.out]
          exact ⟨(Ext.refl _), rfl⟩

theorem parse_yes (T : Tr) (w : World) (hT : T.carets ≤ 8) :
    Calls Try.prog 79 #[.string (tx T)] w fun e w' => ∃ p, e = .returned (.tuple #[.pointer p, .bool true]) ∧ Rep w' T p ∧ Ext w w' := by
  have z : (tx T).size ≤ 25 := by have := T.txt_length; show T.txt.length ≤ _; omega
  have hz : ((tx T).size : Int) ≤ 25 := by omega
  have hc := Lib.hid (read_calls 26 T.txt (tx T) w (by have := T.txt_length; omega) (by omega) rfl)
  have hr := Lib.hid (rd_txt' T 26 (by have := T.depth_le; omega))
  have hc8 : (T.carets : Int) ≤ 8 := by omega
  have f0 : (S []).toList.isEmpty = true := by rw [S_toList]; rfl
  have b8 : T.carets < 1000000000 := by omega
  clear z hT
  go_enter Try.func79, Try.ntmps79
  go_wp2_with fail
  refine hc.out.mono ?_
  rw [hr.out]
  rintro e w1 ⟨hx, p, rfl, hp⟩
  have H := Lib.hid (And.intro hx hp)
  clear hx hp
  go_wp2_with fail
  refine (carets_calls T _ _ b8 H.out.2).mono ?_
  rintro e w2 ⟨rfl, n, rfl⟩
  go_wp2_with fail
  go_ret2
  exact ⟨p, rfl, H.out.2.ext ((Ext.refl _).drewN _), H.out.1.drewN _⟩

theorem parse_no (s : ByteArray) (w : World) (hT : ¬ ∃ T, s = tx T ∧ T.carets ≤ 8) :
    Calls Try.prog 79 #[.string s] w fun e w' => e = .returned (.tuple #[.pointer none, .bool false]) ∧ Ext w w' := by
  by_cases z : s.size ≤ 25
  · have hz : (s.size : Int) ≤ 25 := by omega
    have hl : s.toList.length ≤ 25 := by have := S_of s; rw [this, S_size] at z; exact z
    have hc := Lib.hid (read_calls 26 s.toList s w (by omega) (by omega) (S_of s))
    have hT' := Lib.hid hT
    clear z hT
    cases hr : rd 26 s.toList with
    | none =>
      have hr' := Lib.hid hr
      clear hr
      go_enter Try.func79, Try.ntmps79
      go_wp2_with fail
      refine hc.out.mono ?_
      rw [hr'.out]
      rintro e w1 ⟨hx, rfl⟩
      go_wp2_with fail
      go_ret2
      exact ⟨rfl, hx⟩
    | some x =>
      obtain ⟨T, r⟩ := x
      obtain ⟨e1, e2⟩ := rd_some hr
      have hr' := Lib.hid hr
      clear hr
      cases r with
      | cons c r =>
        have f0 : (S (c :: r)).toList.isEmpty = false := by rw [S_toList]; rfl
        clear e1 e2
        go_enter Try.func79, Try.ntmps79
        go_wp2_with fail
        refine hc.out.mono ?_
        rw [hr'.out]
        rintro e w1 ⟨hx, p, rfl, hp⟩
        go_wp2_with fail
        go_ret2
        exact ⟨rfl, hx⟩
      | nil =>
        have f0 : (S []).toList.isEmpty = true := by rw [S_toList]; rfl
        have hn : 8 < T.carets := by
          apply Nat.lt_of_not_le
          intro h8
          refine hT'.out ⟨T, ?_, h8⟩
          rw [S_of s, e1]; simp [tx]
        have hm : T.carets < 1000000000 := by
          have := T.txt_length
          rw [e1] at hl
          simp at hl
          omega
        have hn' : (8 : Int) < (T.carets : Int) := by omega
        clear e1 e2 hl hn
        go_enter Try.func79, Try.ntmps79
        go_wp2_with fail
        refine hc.out.mono ?_
        rw [hr'.out]
        rintro e w1 ⟨hx, p, rfl, hp⟩
        have H := Lib.hid (And.intro hx hp)
        clear hx hp
        go_wp2_with fail
        refine (carets_calls T _ _ hm H.out.2).mono ?_
        rintro e w2 ⟨rfl, n, rfl⟩
        go_wp2_with fail
        go_ret2
        exact ⟨rfl, H.out.1.drewN _⟩
  · have hz : (25 : Int) < s.size := by omega
    clear z
    go_enter Try.func79, Try.ntmps79
    go_wp2_with fail
    go_ret2
    exact ⟨rfl, Ext.refl _⟩

end Go.Proofs.Ytfjhecilkeikiaa.N
/- Exposed carets, and pairs reduced: plain Lean. -/
namespace Go.Proofs.Ytfjhecilkeikiaa.N

def expo : Tr → Nat → List Nat
  | .leaf, _ => []
  | .node .leaf .leaf, k => [k]
  | .node l r, k => expo l k ++ expo r (k + (l.carets + 1))
theorem expo_node {l r : Tr} (h : ¬ (l = .leaf ∧ r = .leaf)) (k : Nat) : expo (.node l r) k = expo l k ++ expo r (k + (l.carets + 1)) := by
  cases l with
  | leaf =>
    cases r with
    | leaf => exact absurd ⟨rfl, rfl⟩ h
    | node a b => simp [expo]
  | node a b => simp [expo]

def without : Tr → Nat → Tr
  | .leaf, _ => .leaf
  | .node .leaf .leaf, _ => .leaf
  | .node l r, k => if l.carets + 1 ≤ k then .node l (without r (k - (l.carets + 1))) else .node (without l k) r
theorem without_node {l r : Tr} (h : ¬ (l = .leaf ∧ r = .leaf)) (k : Nat) : without (.node l r) k = if l.carets + 1 ≤ k then .node l (without r (k - (l.carets + 1))) else .node (without l k) r := by
  cases l with
  | leaf =>
    cases r with
    | leaf => exact absurd ⟨rfl, rfl⟩ h
    | node a b => simp [without]
  | node a b => simp [without]

theorem nl_r (a b : Tr) : ¬ (Tr.leaf = .leaf ∧ Tr.node a b = .leaf) := fun h => by cases h.2
theorem nl_l (a b r : Tr) : ¬ (Tr.node a b = .leaf ∧ r = .leaf) := fun h => by cases h.1
theorem expo_shift : ∀ (T : Tr) (k j : Nat), expo T (k + j) = (expo T k).map (· + j)
  | .leaf, _, _ => rfl
  | .node .leaf .leaf, _, _ => rfl
  | .node .leaf (.node a b), k, j => by
    rw [expo_node (nl_r a b), expo_node (nl_r a b), List.map_append, expo_shift .leaf k j, ← expo_shift (.node a b), show k + j + (Tr.leaf.carets + 1) = k + (Tr.leaf.carets + 1) + j from by omega]
  | .node (.node a b) r, k, j => by
    rw [expo_node (nl_l a b r), expo_node (nl_l a b r), List.map_append, expo_shift (.node a b) k j, ← expo_shift r, show k + j + ((Tr.node a b).carets + 1) = k + ((Tr.node a b).carets + 1) + j from by omega]
theorem expo_range : ∀ (T : Tr) (k i : Nat), i ∈ expo T k → k ≤ i ∧ i < k + T.carets + 1 ∧ i + 1 ≤ k + T.carets
  | .leaf, _, _, h => by cases h
  | .node .leaf .leaf, k, i, h => by simp [expo] at h; subst h; simp [Tr.carets]; omega
  | .node .leaf (.node a b), k, i, h => by
    rw [expo_node (nl_r a b), List.mem_append] at h
    rcases h with h | h
    · cases h
    · have := expo_range _ _ _ h; have e : (Tr.node .leaf (.node a b)).carets = 1 + 0 + (Tr.node a b).carets := rfl; have e2 : Tr.leaf.carets = 0 := rfl; omega
  | .node (.node a b) r, k, i, h => by
    rw [expo_node (nl_l a b r), List.mem_append] at h
    have e : (Tr.node (.node a b) r).carets = 1 + (Tr.node a b).carets + r.carets := rfl
    rcases h with h | h
    · have := expo_range _ _ _ h; omega
    · have := expo_range _ _ _ h; omega
theorem expo_length : ∀ (T : Tr) (k : Nat), (expo T k).length ≤ T.carets
  | .leaf, _ => Nat.le_refl _
  | .node .leaf .leaf, _ => by simp [expo, Tr.carets]
  | .node .leaf (.node a b), k => by
    rw [expo_node (nl_r a b), List.length_append]; have := expo_length (.node a b) (k + (Tr.leaf.carets + 1)); simp only [expo, Tr.carets, List.length_nil] at *; omega
  | .node (.node a b) r, k => by
    rw [expo_node (nl_l a b r), List.length_append]; have h1 := expo_length (.node a b) k; have h2 := expo_length r (k + ((Tr.node a b).carets + 1)); have e : (Tr.node (.node a b) r).carets = 1 + (Tr.node a b).carets + r.carets := rfl; omega
/-- Where an exposed caret lies. -/
theorem mem_expo_node {l r : Tr} (h : ¬ (l = .leaf ∧ r = .leaf)) {i : Nat} (hi : i ∈ expo (.node l r) 0) : (i < l.carets + 1 ∧ i ∈ expo l 0) ∨ (l.carets + 1 ≤ i ∧ i - (l.carets + 1) ∈ expo r 0) := by
  rw [expo_node h, List.mem_append] at hi
  rcases hi with hi | hi
  · have := expo_range _ _ _ hi; exact .inl ⟨by omega, hi⟩
  · have h2 := expo_range _ _ _ hi
    rw [expo_shift, List.mem_map] at hi
    obtain ⟨j, hj, rfl⟩ := hi
    exact .inr ⟨by omega, by rw [show j + (l.carets + 1) - (l.carets + 1) = j from by omega]; exact hj⟩
theorem without_carets : ∀ (T : Tr) (k : Nat), k ∈ expo T 0 → (without T k).carets + 1 = T.carets
  | .leaf, _, h => by cases h
  | .node .leaf .leaf, _, _ => rfl
  | .node .leaf (.node a b), k, h => by
    rcases mem_expo_node (nl_r a b) h with ⟨_, h⟩ | ⟨h1, h⟩
    · cases h
    · rw [without_node (nl_r a b), if_pos h1]; have := without_carets _ _ h; simp only [Tr.carets] at *; omega
  | .node (.node a b) r, k, h => by
    rcases mem_expo_node (nl_l a b r) h with ⟨h1, h⟩ | ⟨h1, h⟩
    · rw [without_node (nl_l a b r), if_neg (by omega)]; have := without_carets _ _ h; simp only [Tr.carets] at *; omega
    · rw [without_node (nl_l a b r), if_pos h1]; have := without_carets _ _ h; simp only [Tr.carets] at *; omega

/-! ### Pairs -/
/-- The left leaves with which both trees have exposed carets. -/
def bothT (A B : Tr) : List Nat := (expo A 0).filter fun k => (expo B 0).contains k
theorem mem_both {A B : Tr} {k : Nat} (h : k ∈ bothT A B) : k ∈ expo A 0 ∧ k ∈ expo B 0 := by
  obtain ⟨h1, h2⟩ := List.mem_filter.1 h
  exact ⟨h1, by simpa using h2⟩
theorem both_length (A B : Tr) : (bothT A B).length ≤ A.carets := Nat.le_trans (List.length_filter_le _ _) (expo_length A 0)
def redF : Nat → Tr × Tr → Tr × Tr
  | 0, p => p
  | n + 1, p => match bothT p.1 p.2 with
    | [] => p
    | k :: _ => redF n (without p.1 k, without p.2 k)
/-- The pair reduced, the first caret first. -/
def red (p : Tr × Tr) : Tr × Tr := redF p.1.carets p
theorem both_leaf (B : Tr) : bothT .leaf B = [] := rfl
theorem both_zero {A B : Tr} (h : A.carets = 0) : bothT A B = [] := by
  cases A with
  | leaf => rfl
  | node l r => simp only [Tr.carets] at h; omega
theorem redF_more : ∀ (n m : Nat) (p : Tr × Tr), p.1.carets ≤ n → p.1.carets ≤ m → redF n p = redF m p := by
  intro n
  induction n with
  | zero =>
    intro m p h1 _
    have hb : bothT p.1 p.2 = [] := both_zero (by omega)
    cases m with
    | zero => rfl
    | succ m => simp only [redF, hb]
  | succ n ih =>
    intro m p h1 h2
    cases m with
    | zero =>
      have hb : bothT p.1 p.2 = [] := both_zero (by omega)
      simp only [redF, hb]
    | succ m =>
      simp only [redF]
      cases hb : bothT p.1 p.2 with
      | nil => rfl
      | cons k l =>
        have := without_carets p.1 k (mem_both (by rw [hb]; exact List.mem_cons_self)).1
        exact ih m _ (by simp only; omega) (by simp only; omega)
theorem red_nil {p : Tr × Tr} (h : bothT p.1 p.2 = []) : red p = p := by
  unfold red
  cases p.1.carets with
  | zero => rfl
  | succ n => simp only [redF, h]
theorem red_cons {p : Tr × Tr} {k : Nat} {l : List Nat} (h : bothT p.1 p.2 = k :: l) : red p = red (without p.1 k, without p.2 k) := by
  have hc := without_carets p.1 k (mem_both (by rw [h]; exact List.mem_cons_self)).1
  unfold red
  obtain ⟨n, hn⟩ : ∃ n, p.1.carets = n + 1 := ⟨p.1.carets - 1, by omega⟩
  rw [hn]
  simp only [redF, h]
  exact redF_more _ _ _ (by simp only; omega) (by simp only; omega)
theorem redF_le : ∀ (n : Nat) (p : Tr × Tr), (redF n p).1.carets ≤ p.1.carets ∧ (redF n p).2.carets ≤ p.2.carets ∧ (p.1.carets = p.2.carets → (redF n p).1.carets = (redF n p).2.carets)
  | 0, p => ⟨Nat.le_refl _, Nat.le_refl _, fun h => h⟩
  | n + 1, p => by
    simp only [redF]
    cases hb : bothT p.1 p.2 with
    | nil => exact ⟨Nat.le_refl _, Nat.le_refl _, fun h => h⟩
    | cons k l =>
      obtain ⟨m1, m2⟩ := mem_both (A := p.1) (B := p.2) (k := k) (by rw [hb]; exact List.mem_cons_self)
      have h1 := without_carets p.1 k m1
      have h2 := without_carets p.2 k m2
      obtain ⟨a, b, c⟩ := redF_le n (without p.1 k, without p.2 k)
      simp only at a b c
      exact ⟨by simp only; omega, by simp only; omega, fun h => c (by omega)⟩
theorem red_le (p : Tr × Tr) : (red p).1.carets ≤ p.1.carets ∧ (red p).2.carets ≤ p.2.carets := ⟨(redF_le _ p).1, (redF_le _ p).2.1⟩
theorem red_same {p : Tr × Tr} (h : p.1.carets = p.2.carets) : (red p).1.carets = (red p).2.carets := (redF_le _ p).2.2 h
theorem redF_both : ∀ (n : Nat) (p : Tr × Tr), p.1.carets ≤ n → bothT (redF n p).1 (redF n p).2 = []
  | 0, p, h => both_zero (by simp only [redF]; omega)
  | n + 1, p, h => by
    simp only [redF]
    cases hb : bothT p.1 p.2 with
    | nil => exact hb
    | cons k l =>
      have h1 := without_carets p.1 k (mem_both (by rw [hb]; exact List.mem_cons_self)).1
      exact redF_both n _ (by simp only; omega)
theorem red_both (p : Tr × Tr) : bothT (red p).1 (red p).2 = [] := redF_both _ _ (Nat.le_refl _)
theorem red_red (p : Tr × Tr) : red (red p) = red p := red_nil (red_both p)
end Go.Proofs.Ytfjhecilkeikiaa.N
