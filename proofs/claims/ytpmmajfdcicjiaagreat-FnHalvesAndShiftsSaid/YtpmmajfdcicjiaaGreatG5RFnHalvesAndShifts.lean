import Derived.Test.YtpmmajfdcicjiaaGreatG1RFnHalvesAndShifts
import Derived.Test.YtpmmajfdcicjiaaGreatG2RFnHalvesAndShifts
import Derived.Test.YtpmmajfdcicjiaaGreatProg
import Derived.Test.YtpmmajfdcicjiaaGreatG3RFnHalvesAndShifts
import Derived.Deep.LoopGhost
/- The methods of trees, as the Go text has them: each returns what its Lean function tells, for every tree that lies in memory. -/
namespace Go.Proofs.YtpmmajfdcicjiaaGreat.N
open Go.RowKit
set_option linter.unusedVariables false
set_option linter.unusedSimpArgs false

set_option maxHeartbeats 1600000 in
set_option maxRecDepth 100000 in
theorem carets_calls (T : Tr) : ∀ (p : Option Addr) (w : World), T.carets < 1000000000 → Rep w T p →
    Calls Tryz.prog 50 #[.pointer p] w fun e w' => e = .returned (.int .i64 T.carets) ∧ ∃ n, w' = w.drewN n := by
  induction T with
  | leaf =>
    rintro p w _ rfl
    go_enter Tryz.func50, Tryz.ntmps50
    go_wp2
    go_ret
    exact ⟨rfl, 0, rfl⟩
  | node l r ihl ihr =>
    rintro p w hb hr
    have op := hr.open
    clear hr
    obtain ⟨b, pl, pr, rfl, h0, h1, hl, hr⟩ := op
    have H : Hid (_ ∧ _ ∧ _) := Lib.hid (And.intro hl (And.intro hr hb))
    have hbl : 0 ≤ (l.carets : Int) ∧ (l.carets : Int) < 1000000000 := by simp only [Tr.carets] at hb; omega
    have hbr : 0 ≤ (r.carets : Int) ∧ (r.carets : Int) < 1000000000 := by simp only [Tr.carets] at hb; omega
    have hbs : (l.carets : Int) + (r.carets : Int) < 1000000000 := by simp only [Tr.carets] at hb; omega
    clear hl hr hb
    go_enter Tryz.func50, Tryz.ntmps50
    go_wp2_with fail
    go_quiet (first
      | (go_at_call_of 50 (Value.pointer pl); refine Calls.quiet_of (ihl _ _ (by omega) ?_); exact H.out.1.ext ((Ext.refl _).drewN _))
      | (go_at_call_of 50 (Value.pointer pr); refine Calls.quiet_of (ihr _ _ (by omega) ?_); exact H.out.2.1.ext ((Ext.refl _).drewN _)))
    go_wp2_with fail
    go_ret
    exact ⟨by simp [Tr.carets], nq, rfl⟩

set_option maxHeartbeats 1600000 in
set_option maxRecDepth 100000 in
theorem leaves_calls (T : Tr) (p : Option Addr) (w : World) (hb : T.carets < 1000000000) (hr : Rep w T p) :
    Calls Tryz.prog 139 #[.pointer p] w fun e w' => e = .returned (.int .i64 (T.carets + 1)) ∧ ∃ n, w' = w.drewN n := by
  have hb' : 0 ≤ (T.carets : Int) ∧ (T.carets : Int) < 1000000000 := by omega
  have H := Lib.hid hr
  clear hr hb
  go_enter Tryz.func139, Tryz.ntmps139
  go_wp2_with fail
  refine (carets_calls T _ _ (by omega) H.out).mono ?_
  rintro e w1 ⟨rfl, n, rfl⟩
  go_wp2_with fail
  go_ret
  exact ⟨rfl, n, rfl⟩

set_option maxHeartbeats 1600000 in
set_option maxRecDepth 100000 in
theorem text_calls (T : Tr) : ∀ (p : Option Addr) (w : World), T.carets < 1000000000 → Rep w T p →
    Calls Tryz.prog 103 #[.pointer p] w fun e w' => e = .returned (.string (tx T)) ∧ ∃ n, w' = w.drewN n := by
  induction T with
  | leaf =>
    rintro p w _ rfl
    go_enter Tryz.func103, Tryz.ntmps103
    go_wp2
    go_ret
    exact ⟨rfl, 0, rfl⟩
  | node l r ihl ihr =>
    rintro p w hb hr
    have op := hr.open
    clear hr
    obtain ⟨b, pl, pr, rfl, h0, h1, hl, hr⟩ := op
    have H : Hid (_ ∧ _ ∧ _) := Lib.hid (And.intro hl (And.intro hr hb))
    have zl : (tx l).size ≤ 3000000000 := by have := l.txt_length; simp only [Tr.carets] at hb; show l.txt.length ≤ _; omega
    have zr : (tx r).size ≤ 3000000000 := by have := r.txt_length; simp only [Tr.carets] at hb; show r.txt.length ≤ _; omega
    have bl : l.carets < 1000000000 := by simp only [Tr.carets] at hb; omega
    have br : r.carets < 1000000000 := by simp only [Tr.carets] at hb; omega
    have E := Lib.hid (tx_node l r)
    clear hl hr hb
    go_enter Tryz.func103, Tryz.ntmps103
    go_wp2_with fail
    go_quiet (first
      | (go_at_call_of 103 (Value.pointer pl); refine Calls.quiet_of (ihl _ _ bl ?_); exact H.out.1.ext ((Ext.refl _).drewN _))
      | (go_at_call_of 103 (Value.pointer pr); refine Calls.quiet_of (ihr _ _ br ?_); exact H.out.2.1.ext ((Ext.refl _).drewN _)))
    go_wp2_with fail
    go_ret
    exact ⟨by rw [E.out]; rfl, nq, rfl⟩

def ReadPost (w : World) (o : Option (Tr × List UInt8)) (e : Ending) (w' : World) : Prop :=
  Ext w w' ∧ match o with
  | none => e = .returned (.tuple #[.pointer none, .string (S []), .bool false])
  | some (T, l) => ∃ p, e = .returned (.tuple #[.pointer p, .string (S l), .bool true]) ∧ Rep w' T p

set_option maxHeartbeats 1600000 in
set_option maxRecDepth 100000 in
theorem read_calls (n : Nat) : ∀ (l : List UInt8) (s : ByteArray) (w : World), l.length < n → n < 100000 → s = S l → 
    Calls Tryz.prog 131 #[.string s] w (ReadPost w (rd n l)) := by
  induction n with
  | zero => intro l s w h; omega
  | succ n ih =>
    intro l s w hl hn hs
    cases l with
    | nil =>
      have e0 : (s.toList == []) = true := by rw [hs, S_toList]; rfl
      clear hs
      go_enter Tryz.func131, Tryz.ntmps131
      go_wp2
      go_ret3
      exact ⟨Ext.refl _, rfl⟩
    | cons c l =>
      have e0 : (s.toList == []) = false := by rw [hs, S_toList]; rfl
      have z0 : 0 < s.size := by rw [hs, S_size]; simp
      have z1 : (1 : Int) ≤ s.size := by omega
      have x0 : ∀ h : 0 < s.size, ((s[0]'h).toNat : Int) = (c.toNat : Int) := by subst hs; intro h; rfl
      have Ht : Hid (s.extract 1 s.size = S l) := by subst hs; exact S_tail c l
      by_cases c1 : c = 46
      · have t1 : ((c.toNat : Int) == 46) = true := by subst c1; rfl
        have hR : Hid (rd (n + 1) (c :: l) = some (.leaf, l)) := by subst c1; rfl
        clear hs
        go_enter Tryz.func131, Tryz.ntmps131
        go_wp2
        go_quiet (fail)
        go_wp2
        go_ret3
        rw [hR.out]
        exact ⟨(Ext.refl _).drewN _, none, by rw [← Ht.out]; rfl, rfl⟩
      · have t1 : ((c.toNat : Int) == 46) = false := byte_ne c1
        by_cases c2 : c = 40
        · have t2 : ((c.toNat : Int) != 40) = false := by subst c2; rfl
          have hR : Hid (rd (n + 1) (c :: l) = match rd n l with
              | none => none
              | some (a, l1) => match rd n l1 with
                | some (b, 41 :: l3) => some (.node a b, l3)
                | _ => none) := by subst c2; rfl
          have hl' : l.length < n := by simpa using hl
          have hlen : ∀ T r, rd n l = some (T, r) → r.length < n := fun T r h => Nat.lt_of_le_of_lt (rd_length h) hl'
          clear hs hl
          go_enter Tryz.func131, Tryz.ntmps131
          go_wp2_with fail
          refine (ih l _ _ hl' (by omega) Ht.out).mono ?_
          generalize rd n l = o at *
          rintro e w1 ⟨hx1, hp⟩
          cases o with
          | none =>
            obtain rfl := hp
            go_wp2_with fail
            go_ret3
            rw [hR.out]
            exact ⟨hx1, rfl⟩
          | some ab =>
            obtain ⟨A, l1⟩ := ab
            obtain ⟨p, rfl, hp⟩ := hp
            have hl1 := hlen A l1 rfl
            clear hlen
            go_wp2_with fail
            refine (ih l1 _ _ hl1 (by omega) rfl).mono ?_
            generalize rd n l1 = o at *
            rintro e w2 ⟨hx2, hp2⟩
            cases o with
            | none =>
              obtain rfl := hp2
              go_wp2_with fail
              go_ret3
              rw [hR.out]
              exact ⟨hx1.trans hx2, rfl⟩
            | some ab =>
              obtain ⟨B, l2⟩ := ab
              obtain ⟨q, rfl, hq⟩ := hp2
              cases l2 with
              | nil =>
                have f0 := S_nil
                go_wp2_with fail
                go_ret3
                rw [hR.out]
                exact ⟨hx1.trans hx2, rfl⟩
              | cons d l3 =>
                obtain ⟨f0, z0, z1, x0, Ht⟩ := S_facts d l3
                generalize S (d :: l3) = s2 at *
                by_cases c3 : d = 41
                · have t3 : ((d.toNat : Int) != 41) = false := by subst c3; rfl
                  have HR := Lib.hid (And.intro (hp.ext hx2) (And.intro hq (hx1.trans hx2)))
                  clear hp hq hx1 hx2
                  go_wp2_with fail
                  go_region
                  go_wp2_with fail
                  go_ret3
                  rw [hR.out]
                  subst c3
                  exact ⟨(HR.out.2.2.alloc _).drew, _, by rw [← Ht.out]; rfl, (Rep.made HR.out.1 HR.out.2.1).ext ((Ext.refl _).drew)⟩
                · have t3 : ((d.toNat : Int) != 41) = true := byte_bne c3
                  go_wp2_with fail
                  go_ret3
                  rw [hR.out]
                  have : (match (some (B, d :: l3) : Option (Tr × List UInt8)) with | some (b, 41 :: l3) => some (Tr.node A b, l3) | _ => none) = none := by
                    split
                    · rename_i h; simp at h; exact absurd h.2.1 c3
                    · rfl
                  rw [this]
                  exact ⟨hx1.trans hx2, rfl⟩
        · have t2 : ((c.toNat : Int) != 40) = true := byte_bne c2
          have hR : Hid (rd (n + 1) (c :: l) = none) := by simp [Hid, rd, c1, c2]
          clear hs
          go_enter Tryz.func131, Tryz.ntmps131
          go_wp2
          go_ret3
          rw [hR.out]
          exact ⟨(Ext.refl _), rfl⟩

theorem parse_yes (T : Tr) (w : World) (hT : T.carets ≤ 8) :
    Calls Tryz.prog 94 #[.string (tx T)] w fun e w' => ∃ p, e = .returned (.tuple #[.pointer p, .bool true]) ∧ Rep w' T p ∧ Ext w w' := by
  have z : (tx T).size ≤ 25 := by have := T.txt_length; show T.txt.length ≤ _; omega
  have hz : ((tx T).size : Int) ≤ 25 := by omega
  have hc := Lib.hid (read_calls 26 T.txt (tx T) w (by have := T.txt_length; omega) (by omega) rfl)
  have hr := Lib.hid (rd_txt' T 26 (by have := T.depth_le; omega))
  have hc8 : (T.carets : Int) ≤ 8 := by omega
  have f0 : (S []).toList.isEmpty = true := by rw [S_toList]; rfl
  have b8 : T.carets < 1000000000 := by omega
  clear z hT
  go_enter Tryz.func94, Tryz.ntmps94
  go_wp2_with fail
  refine hc.out.mono ?_
  rw [hr.out]
  rintro e w1 ⟨hx, p, rfl, hp⟩
  have H := Lib.hid (And.intro hx hp)
  clear hx hp
  go_wp2_with fail
  refine (carets_calls T _ _ b8 H.out.2).mono ?_
  rintro e w2 ⟨rfl, n, rfl⟩
  go_wp2_with fail
  go_ret2
  exact ⟨p, rfl, H.out.2.ext ((Ext.refl _).drewN _), H.out.1.drewN _⟩

theorem parse_no (s : ByteArray) (w : World) (hT : ¬ ∃ T, s = tx T ∧ T.carets ≤ 8) :
    Calls Tryz.prog 94 #[.string s] w fun e w' => e = .returned (.tuple #[.pointer none, .bool false]) ∧ Ext w w' := by
  by_cases z : s.size ≤ 25
  · have hz : (s.size : Int) ≤ 25 := by omega
    have hl : s.toList.length ≤ 25 := by have := S_of s; rw [this, S_size] at z; exact z
    have hc := Lib.hid (read_calls 26 s.toList s w (by omega) (by omega) (S_of s))
    have hT' := Lib.hid hT
    clear z hT
    cases hr : rd 26 s.toList with
    | none =>
      have hr' := Lib.hid hr
      clear hr
      go_enter Tryz.func94, Tryz.ntmps94
      go_wp2_with fail
      refine hc.out.mono ?_
      rw [hr'.out]
      rintro e w1 ⟨hx, rfl⟩
      go_wp2_with fail
      go_ret2
      exact ⟨rfl, hx⟩
    | some x =>
      obtain ⟨T, r⟩ := x
      obtain ⟨e1, e2⟩ := rd_some hr
      have hr' := Lib.hid hr
      clear hr
      cases r with
      | cons c r =>
        have f0 : (S (c :: r)).toList.isEmpty = false := by rw [S_toList]; rfl
        clear e1 e2
        go_enter Tryz.func94, Tryz.ntmps94
        go_wp2_with fail
        refine hc.out.mono ?_
        rw [hr'.out]
        rintro e w1 ⟨hx, p, rfl, hp⟩
        go_wp2_with fail
        go_ret2
        exact ⟨rfl, hx⟩
      | nil =>
        have f0 : (S []).toList.isEmpty = true := by rw [S_toList]; rfl
        have hn : 8 < T.carets := by
          apply Nat.lt_of_not_le
          intro h8
          refine hT'.out ⟨T, ?_, h8⟩
          rw [S_of s, e1]; simp [tx]
        have hm : T.carets < 1000000000 := by
          have := T.txt_length
          rw [e1] at hl
          simp at hl
          omega
        have hn' : (8 : Int) < (T.carets : Int) := by omega
        clear e1 e2 hl hn
        go_enter Tryz.func94, Tryz.ntmps94
        go_wp2_with fail
        refine hc.out.mono ?_
        rw [hr'.out]
        rintro e w1 ⟨hx, p, rfl, hp⟩
        have H := Lib.hid (And.intro hx hp)
        clear hx hp
        go_wp2_with fail
        refine (carets_calls T _ _ hm H.out.2).mono ?_
        rintro e w2 ⟨rfl, n, rfl⟩
        go_wp2_with fail
        go_ret2
        exact ⟨rfl, H.out.1.drewN _⟩
  · have hz : (25 : Int) < s.size := by omega
    clear z
    go_enter Tryz.func94, Tryz.ntmps94
    go_wp2_with fail
    go_ret2
    exact ⟨rfl, Ext.refl _⟩

end Go.Proofs.YtpmmajfdcicjiaaGreat.N
/- Exposed carets and pairs, as the program has them. -/
namespace Go.Proofs.YtpmmajfdcicjiaaGreat.N
open Go.RowKit
set_option linter.unusedVariables false
set_option linter.unusedSimpArgs false

theorem infoInt : (Tryz.prog.info? 3).map (fun i => (i.zero, i.size, i.bytes)) = some (some (.int .i64 0), 1, 8) := by kernel_rfl

def nats (xs : List Nat) : List Value := ints (xs.map fun (n : Nat) => (n : Int))
theorem nats_length (xs : List Nat) : (nats xs).length = xs.length := by simp [nats, ints]
theorem nats_append (xs ys : List Nat) : nats xs ++ nats ys = nats (xs ++ ys) := by simp [nats, ints]
theorem nats_one (xs : List Nat) : ∀ u ∈ nats xs, u.oneCell' = true := ints_one _
theorem nats_get (xs : List Nat) (k : Nat) (h : k < xs.length) : (nats xs)[k]? = some (.int .i64 (xs[k] : Nat)) := by simp [nats, ints, List.getElem?_eq_getElem h]
/-- Numbers of the call's own. -/
def GivesN (w : World) (xs : List Nat) (e : Ending) (w' : World) : Prop := ∃ v, e = .returned v ∧ Own w' w.heap.size 3 v (nats xs) ∧ Ext w w'

set_option maxHeartbeats 3200000 in
set_option maxRecDepth 100000 in
theorem exposed_calls (T : Tr) : ∀ (k : Nat) (p : Option Addr) (w : World), k + T.carets < 100000000 → Rep w T p →
    Calls Tryz.prog 136 #[.pointer p, .int .i64 k] w (GivesN w (expo T k)) := by
  induction T with
  | leaf =>
    intro k p w _ hr
    obtain rfl := hr
    go_enter Tryz.func136, Tryz.ntmps136
    go_wp2_with fail
    go_ret
    exact ⟨_, rfl, Own.nil _ _ _, Ext.refl _⟩
  | node l r ihl ihr =>
    intro k p w hc hr
    have op := hr.open
    clear hr
    obtain ⟨b, pl, pr, rfl, h0, h1, hl, hr⟩ := op
    by_cases hh : l = .leaf ∧ r = .leaf
    · obtain ⟨rfl, rfl⟩ := hh
      obtain rfl := hl
      obtain rfl := hr
      have o := Own.lit w w.heap.size 3 #[.int .i64 k] (Nat.le_refl _) (by show 1 ≤ maxLen; decide)
      have O := Lib.hid o
      clear o hc ihl ihr
      go_enter Tryz.func136, Tryz.ntmps136
      go_wp2_with fail
      go_ret
      exact ⟨_, rfl, O.out, (Ext.refl _).alloc _⟩
    · have hcc : (Tr.node l r).carets = 1 + l.carets + r.carets := rfl
      have e1 : 0 ≤ (l.carets : Int) ∧ (k : Int) + l.carets + 1 < 1000000000 := by omega
      have W1 : Hid ((k : Int) + (l.carets + 1) = ((k + (l.carets + 1) : Nat) : Int)) := by show _ = _; omega
      have W2 : IntKind.i64.wrap ((k : Int) + (l.carets + 1)) = (k : Int) + (l.carets + 1) := wrap_ok (by omega)
      have EN := Lib.hid (expo_node hh k)
      have NL := expo_length l k
      have NR := expo_length r (k + (l.carets + 1))
      have L1 : Hid (((nats (expo l k)).length + (nats (expo r (k + (l.carets + 1)))).length) * 8 ≤ 140737488355328) := by show _ ≤ _; rw [nats_length, nats_length]; omega
      have H := Lib.hid (And.intro hl hr)
      have HC : Hid (k + l.carets < 100000000 ∧ k + (l.carets + 1) + r.carets < 100000000 ∧ l.carets < 1000000000) := ⟨by omega, by omega, by omega⟩
      clear hc hcc NL NR
      cases l with
      | leaf =>
        obtain rfl := hl
        cases r with
        | leaf => exact absurd ⟨rfl, rfl⟩ hh
        | node x y =>
          obtain ⟨b2, px, py, e2, _⟩ := hr
          subst e2
          clear hh
          go_enter Tryz.func136, Tryz.ntmps136
          go_wp2_with fail
          go_region_held3 (fun w' => w'.cell? ⟨b, 0, none⟩ = some (.pointer none) ∧ w'.cell? ⟨b, 1, none⟩ = some (.pointer (some ⟨b2, 0, none⟩)) ∧ Ext w w')
            (first | exact two_cells h0 h1 (Ext.drew (Ext.refl _)) | exact two_cells h0 h1 x4 | exact two_cells h0 h1 x3 | exact two_cells h0 h1 x2 | exact two_cells h0 h1 x1 | fail)
            (first
              | (go_at_call 139; refine (leaves_calls .leaf _ _ HC.out.2.2 (H.out.1.ext x1)).mono ?_; rintro e w2 ⟨rfl, n2, rfl⟩; have x2 := x1.drewN n2)
              | (go_at_call_of 136 (Value.pointer none); refine (ihl _ _ _ HC.out.1 (H.out.1.ext (Ext.refl _).drew)).mono ?_; rintro e w1 ⟨v1, rfl, o1, hx1⟩; have x1 := (Ext.refl w).drew.trans hx1)
              | (go_at_call_of 136 (Value.pointer (some ⟨b2, 0, none⟩)); rw [W1.out]; refine (ihr _ _ _ HC.out.2.1 (H.out.2.ext x2)).mono ?_; rintro e w3 ⟨v3, rfl, o3, hx3⟩; have x3 := x2.trans hx3)
              | (refine step_app (by rfl) (.tmp 26) (.tmp 38) 45 (by rfl) w.heap.size 3 (.int .i64 0) 8 Tryz.underlying45 infoInt rfl (by omega) _ _ (nats (expo .leaf k)) (nats (expo (.node x y) (k + (Tr.leaf.carets + 1)))) (by rfl) (by rfl) (((o1.ext ((Ext.refl _).drewN n2)).ext hx3).mono ((Ext.refl w).drew).size) o3.reads (nats_one _) L1.out x3.size ?_; intro v4 w4 o4 g4 _; have x4 := x3.grown g4 (fun q hq => Nat.le_trans ((Ext.refl w).drew).size (o1.lo q hq)))
              | fail)
          go_wp2_with fail
          go_ret
          refine ⟨_, rfl, ?_, x4⟩
          rw [EN.out]
          rw [nats_append] at o4
          exact o4
      | node x y =>
        obtain ⟨b2, px, py, e2, _⟩ := hl
        subst e2
        clear hh hr
        go_enter Tryz.func136, Tryz.ntmps136
        go_wp2_with fail
        go_region_held3 (fun w' => w'.cell? ⟨b, 0, none⟩ = some (.pointer (some ⟨b2, 0, none⟩)) ∧ w'.cell? ⟨b, 1, none⟩ = some (.pointer pr) ∧ Ext w w')
          (first | exact two_cells h0 h1 (Ext.drew (Ext.refl _)) | exact two_cells h0 h1 x4 | exact two_cells h0 h1 x3 | exact two_cells h0 h1 x2 | exact two_cells h0 h1 x1 | fail)
          (first
            | (go_at_call 139; refine (leaves_calls (.node x y) _ _ HC.out.2.2 (H.out.1.ext x1)).mono ?_; rintro e w2 ⟨rfl, n2, rfl⟩; have x2 := x1.drewN n2)
            | (go_at_call_of 136 (Value.pointer (some ⟨b2, 0, none⟩)); refine (ihl _ _ _ HC.out.1 (H.out.1.ext (Ext.refl _).drew)).mono ?_; rintro e w1 ⟨v1, rfl, o1, hx1⟩; have x1 := (Ext.refl w).drew.trans hx1)
            | (go_at_call_of 136 (Value.pointer pr); rw [W1.out]; refine (ihr _ _ _ HC.out.2.1 (H.out.2.ext x2)).mono ?_; rintro e w3 ⟨v3, rfl, o3, hx3⟩; have x3 := x2.trans hx3)
            | (refine step_app (by rfl) (.tmp 26) (.tmp 38) 45 (by rfl) w.heap.size 3 (.int .i64 0) 8 Tryz.underlying45 infoInt rfl (by omega) _ _ (nats (expo (.node x y) k)) (nats (expo r (k + ((Tr.node x y).carets + 1)))) (by rfl) (by rfl) (((o1.ext ((Ext.refl _).drewN n2)).ext hx3).mono ((Ext.refl w).drew).size) o3.reads (nats_one _) L1.out x3.size ?_; intro v4 w4 o4 g4 _; have x4 := x3.grown g4 (fun q hq => Nat.le_trans ((Ext.refl w).drew).size (o1.lo q hq)))
            | fail)
        go_wp2_with fail
        go_ret
        refine ⟨_, rfl, ?_, x4⟩
        rw [EN.out]
        rw [nats_append] at o4
        exact o4

set_option maxHeartbeats 3200000 in
set_option maxRecDepth 100000 in
theorem without_calls (T : Tr) : ∀ (k : Nat) (p : Option Addr) (w : World), T.carets < 100000000 → k ∈ expo T 0 → Rep w T p →
    Calls Tryz.prog 138 #[.pointer p, .int .i64 k] w (GivesT w (without T k)) := by
  induction T with
  | leaf => intro k p w _ hk; cases hk
  | node l r ihl ihr =>
    intro k p w hc hk hr
    have op := hr.open
    clear hr
    obtain ⟨b, pl, pr, rfl, h0, h1, hl, hr⟩ := op
    by_cases hh : l = .leaf ∧ r = .leaf
    · obtain ⟨rfl, rfl⟩ := hh
      obtain rfl := hl
      obtain rfl := hr
      clear hc hk ihl ihr
      go_enter Tryz.func138, Tryz.ntmps138
      go_wp2_with fail
      go_ret
      exact ⟨_, rfl, rfl, Ext.refl _⟩
    · have H := Lib.hid (And.intro hl hr)
      cases l with
      | leaf =>
        obtain rfl := hl
        cases r with
        | leaf => exact absurd ⟨rfl, rfl⟩ hh
        | node x y =>
          obtain ⟨b2, px, py, e2, _⟩ := hr
          subst e2
          have HC2 := hc
          rcases mem_expo_node hh hk with ⟨k1, k2⟩ | ⟨k1, k2⟩
          · have t1 : (k : Int) < Tr.leaf.carets + 1 := by omega
            have EN : Hid (without (.node .leaf (.node x y)) k = .node (without .leaf k) (.node x y)) := by show _ = _; rw [without_node hh, if_neg (by omega)]
            have HC : Hid (Tr.leaf.carets < 1000000000 ∧ Tr.leaf.carets < 100000000 ∧ k ∈ expo .leaf 0) := ⟨by simp only [Tr.carets] at hc ⊢; omega, by simp only [Tr.carets] at hc ⊢; omega, k2⟩
            have W1 : Hid ((k : Int) = k) := rfl
            have c0 : 0 ≤ (Tr.leaf.carets : Int) ∧ (Tr.leaf.carets : Int) < 1000000000 := by have := HC.out.1; omega
            clear hc hk k1 k2 hh HC2
            go_enter Tryz.func138, Tryz.ntmps138
            go_wp2_with fail
            refine (leaves_calls .leaf _ _ HC.out.1 H.out.1).mono ?_
            rintro e w1 ⟨rfl, n1, rfl⟩
            go_wp2_with fail
            go_region_held3 (fun w' => w'.cell? ⟨b, 0, none⟩ = some (.pointer none) ∧ w'.cell? ⟨b, 1, none⟩ = some (.pointer (some ⟨b2, 0, none⟩)) ∧ Ext w w')
              (first | exact two_cells h0 h1 ((Ext.refl _).drewN n1).drew | exact two_cells h0 h1 ((Ext.refl _).drewN _) | exact two_cells h0 h1 (x3.alloc _) | exact two_cells h0 h1 x3 | fail)
              (first
                | (go_at_call 138; refine (ihl _ _ _ HC.out.2.1 HC.out.2.2 (H.out.1.ext (by first | exact ((Ext.refl _).drewN n1).drew | exact ((Ext.refl _).drewN _) | fail))).mono ?_; rintro e w3 ⟨p3, rfl, r3, hx3⟩; have x3 : Ext w w3 := (by first | exact ((Ext.refl w).drewN n1).drew.trans hx3 | exact ((Ext.refl w).drewN _).trans hx3 | fail))
                | fail)
            go_wp2_with fail
            go_ret
            rw [EN.out]
            exact ⟨_, rfl, Rep.made r3 (H.out.2.ext x3), x3.alloc _⟩
          · have t1 : ¬ (k : Int) < Tr.leaf.carets + 1 := by omega
            have t2 : ((Tr.leaf.carets : Int) + 1) ≤ k := by omega
            have EN : Hid (without (.node .leaf (.node x y)) k = .node .leaf (without (.node x y) (k - (Tr.leaf.carets + 1)))) := by show _ = _; rw [without_node hh, if_pos k1]
            have HC : Hid (Tr.leaf.carets < 1000000000 ∧ (Tr.node x y).carets < 100000000 ∧ k - (Tr.leaf.carets + 1) ∈ expo (.node x y) 0) := ⟨by simp only [Tr.carets] at hc ⊢; omega, by simp only [Tr.carets] at hc ⊢; omega, k2⟩
            have W1 : Hid ((k : Int) - (Tr.leaf.carets + 1) = ((k - (Tr.leaf.carets + 1) : Nat) : Int)) := by show _ = _; omega
            have c0 : 0 ≤ (Tr.leaf.carets : Int) ∧ (Tr.leaf.carets : Int) < 1000000000 := by have := HC.out.1; omega
            have c1 : (k : Int) < 1000000000 := by have := (expo_range _ _ _ hk).2.1; omega
            have W2 : IntKind.i64.wrap ((k : Int) - (Tr.leaf.carets + 1)) = (k : Int) - (Tr.leaf.carets + 1) := wrap_ok (by omega)
            clear hc hk k1 k2 hh HC2
            go_enter Tryz.func138, Tryz.ntmps138
            go_wp2_with fail
            refine (leaves_calls .leaf _ _ HC.out.1 H.out.1).mono ?_
            rintro e w1 ⟨rfl, n1, rfl⟩
            go_wp2_with fail
            go_region_held3 (fun w' => w'.cell? ⟨b, 0, none⟩ = some (.pointer none) ∧ w'.cell? ⟨b, 1, none⟩ = some (.pointer (some ⟨b2, 0, none⟩)) ∧ Ext w w')
              (first | exact two_cells h0 h1 ((Ext.refl _).drewN n1).drew | exact two_cells h0 h1 ((Ext.refl _).drewN _) | exact two_cells h0 h1 (x3.alloc _) | exact two_cells h0 h1 x3 | fail)
              (first
                | (go_at_call 138; rw [W1.out]; refine (ihr _ _ _ HC.out.2.1 HC.out.2.2 (H.out.2.ext (by first | exact ((Ext.refl _).drewN n1).drew | exact ((Ext.refl _).drewN _) | fail))).mono ?_; rintro e w3 ⟨p3, rfl, r3, hx3⟩; have x3 : Ext w w3 := (by first | exact ((Ext.refl w).drewN n1).drew.trans hx3 | exact ((Ext.refl w).drewN _).trans hx3 | fail))
                | fail)
            go_wp2_with fail
            go_ret
            rw [EN.out]
            exact ⟨_, rfl, Rep.made (H.out.1.ext x3) r3, x3.alloc _⟩
      | node x y =>
        obtain ⟨b2, px, py, e2, _⟩ := hl
        subst e2
        clear hr
        have HC2 := hc
        rcases mem_expo_node hh hk with ⟨k1, k2⟩ | ⟨k1, k2⟩
        · have t1 : (k : Int) < (Tr.node x y).carets + 1 := by omega
          have EN : Hid (without (.node (.node x y) r) k = .node (without (.node x y) k) r) := by show _ = _; rw [without_node hh, if_neg (by omega)]
          have HC : Hid ((Tr.node x y).carets < 1000000000 ∧ (Tr.node x y).carets < 100000000 ∧ k ∈ expo (.node x y) 0) := ⟨by simp only [Tr.carets] at hc ⊢; omega, by simp only [Tr.carets] at hc ⊢; omega, k2⟩
          have W1 : Hid ((k : Int) = k) := rfl
          have c0 : 0 ≤ ((Tr.node x y).carets : Int) ∧ ((Tr.node x y).carets : Int) < 1000000000 := by have := HC.out.1; omega
          clear hc hk k1 k2 hh HC2
          go_enter Tryz.func138, Tryz.ntmps138
          go_wp2_with fail
          refine (leaves_calls (.node x y) _ _ HC.out.1 H.out.1).mono ?_
          rintro e w1 ⟨rfl, n1, rfl⟩
          go_wp2_with fail
          go_region_held3 (fun w' => w'.cell? ⟨b, 0, none⟩ = some (.pointer (some ⟨b2, 0, none⟩)) ∧ w'.cell? ⟨b, 1, none⟩ = some (.pointer pr) ∧ Ext w w')
            (first | exact two_cells h0 h1 ((Ext.refl _).drewN n1).drew | exact two_cells h0 h1 ((Ext.refl _).drewN _) | exact two_cells h0 h1 (x3.alloc _) | exact two_cells h0 h1 x3 | fail)
            (first
              | (go_at_call 138; refine (ihl _ _ _ HC.out.2.1 HC.out.2.2 (H.out.1.ext (by first | exact ((Ext.refl _).drewN n1).drew | exact ((Ext.refl _).drewN _) | fail))).mono ?_; rintro e w3 ⟨p3, rfl, r3, hx3⟩; have x3 : Ext w w3 := (by first | exact ((Ext.refl w).drewN n1).drew.trans hx3 | exact ((Ext.refl w).drewN _).trans hx3 | fail))
              | fail)
          go_wp2_with fail
          go_ret
          rw [EN.out]
          exact ⟨_, rfl, Rep.made r3 (H.out.2.ext x3), x3.alloc _⟩
        · have t1 : ¬ (k : Int) < (Tr.node x y).carets + 1 := by omega
          have t2 : (((Tr.node x y).carets : Int) + 1) ≤ k := by omega
          have EN : Hid (without (.node (.node x y) r) k = .node (.node x y) (without r (k - ((Tr.node x y).carets + 1)))) := by show _ = _; rw [without_node hh, if_pos k1]
          have HC : Hid ((Tr.node x y).carets < 1000000000 ∧ (r).carets < 100000000 ∧ k - ((Tr.node x y).carets + 1) ∈ expo r 0) := ⟨by simp only [Tr.carets] at hc ⊢; omega, by simp only [Tr.carets] at hc ⊢; omega, k2⟩
          have W1 : Hid ((k : Int) - ((Tr.node x y).carets + 1) = ((k - ((Tr.node x y).carets + 1) : Nat) : Int)) := by show _ = _; omega
          have c0 : 0 ≤ ((Tr.node x y).carets : Int) ∧ ((Tr.node x y).carets : Int) < 1000000000 := by have := HC.out.1; omega
          have c1 : (k : Int) < 1000000000 := by have := (expo_range _ _ _ hk).2.1; omega
          have W2 : IntKind.i64.wrap ((k : Int) - ((Tr.node x y).carets + 1)) = (k : Int) - ((Tr.node x y).carets + 1) := wrap_ok (by omega)
          clear hc hk k1 k2 hh HC2
          go_enter Tryz.func138, Tryz.ntmps138
          go_wp2_with fail
          refine (leaves_calls (.node x y) _ _ HC.out.1 H.out.1).mono ?_
          rintro e w1 ⟨rfl, n1, rfl⟩
          go_wp2_with fail
          go_region_held3 (fun w' => w'.cell? ⟨b, 0, none⟩ = some (.pointer (some ⟨b2, 0, none⟩)) ∧ w'.cell? ⟨b, 1, none⟩ = some (.pointer pr) ∧ Ext w w')
            (first | exact two_cells h0 h1 ((Ext.refl _).drewN n1).drew | exact two_cells h0 h1 ((Ext.refl _).drewN _) | exact two_cells h0 h1 (x3.alloc _) | exact two_cells h0 h1 x3 | fail)
            (first
              | (go_at_call 138; rw [W1.out]; refine (ihr _ _ _ HC.out.2.1 HC.out.2.2 (H.out.2.ext (by first | exact ((Ext.refl _).drewN n1).drew | exact ((Ext.refl _).drewN _) | fail))).mono ?_; rintro e w3 ⟨p3, rfl, r3, hx3⟩; have x3 : Ext w w3 := (by first | exact ((Ext.refl w).drewN n1).drew.trans hx3 | exact ((Ext.refl w).drewN _).trans hx3 | fail))
              | fail)
          go_wp2_with fail
          go_ret
          rw [EN.out]
          exact ⟨_, rfl, Rep.made (H.out.1.ext x3) r3, x3.alloc _⟩
end Go.Proofs.YtpmmajfdcicjiaaGreat.N
