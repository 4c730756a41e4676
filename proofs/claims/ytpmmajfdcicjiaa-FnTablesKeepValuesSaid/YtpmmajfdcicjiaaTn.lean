import Derived.Test.YtpmmajfdcicjiaaBa
import Derived.Test.YtpmmajfdcicjiaaPu
import Derived.Test.YtpmmajfdcicjiaaSl
import Derived.Test.YtpmmajfdcicjiaaProg
/- The methods of trees, as the Go text has them: each returns what its Lean function tells, for every tree that lies in memory. -/
namespace Go.Proofs.Ytpmmajfdcicjiaa.N
open Go.RowKit
set_option linter.unusedVariables false
set_option linter.unusedSimpArgs false

set_option maxHeartbeats 1600000 in
set_option maxRecDepth 100000 in
theorem carets_calls (T : Tr) : ∀ (p : Option Addr) (w : World), T.carets < 1000000000 → Rep w T p →
    Calls Try.prog 79 #[.pointer p] w fun e w' => e = .returned (.int .i64 T.carets) ∧ ∃ n, w' = w.drewN n := by
  induction T with
  | leaf =>
    rintro p w _ rfl
    go_enter Try.func79, Try.ntmps79
    go_wp2
    go_ret
    exact ⟨rfl, 0, rfl⟩
  | node l r ihl ihr =>
    rintro p w hb hr
    have op := hr.open
    clear hr
    obtain ⟨b, pl, pr, rfl, h0, h1, hl, hr⟩ := op
    have H : Hid (_ ∧ _ ∧ _) := Lib.hid (And.intro hl (And.intro hr hb))
    have hbl : 0 ≤ (l.carets : Int) ∧ (l.carets : Int) < 1000000000 := by simp only [Tr.carets] at hb; omega
    have hbr : 0 ≤ (r.carets : Int) ∧ (r.carets : Int) < 1000000000 := by simp only [Tr.carets] at hb; omega
    have hbs : (l.carets : Int) + (r.carets : Int) < 1000000000 := by simp only [Tr.carets] at hb; omega
    clear hl hr hb
    go_enter Try.func79, Try.ntmps79
    go_wp2_with fail
    go_quiet (first
      | (go_at_call_of 79 (Value.pointer pl); refine Calls.quiet_of (ihl _ _ (by omega) ?_); exact H.out.1.ext ((Ext.refl _).drewN _))
      | (go_at_call_of 79 (Value.pointer pr); refine Calls.quiet_of (ihr _ _ (by omega) ?_); exact H.out.2.1.ext ((Ext.refl _).drewN _)))
    go_wp2_with fail
    go_ret
    exact ⟨by simp [Tr.carets], nq, rfl⟩

set_option maxHeartbeats 1600000 in
set_option maxRecDepth 100000 in
theorem leaves_calls (T : Tr) (p : Option Addr) (w : World) (hb : T.carets < 1000000000) (hr : Rep w T p) :
    Calls Try.prog 80 #[.pointer p] w fun e w' => e = .returned (.int .i64 (T.carets + 1)) ∧ ∃ n, w' = w.drewN n := by
  have hb' : 0 ≤ (T.carets : Int) ∧ (T.carets : Int) < 1000000000 := by omega
  have H := Lib.hid hr
  clear hr hb
  go_enter Try.func80, Try.ntmps80
  go_wp2_with fail
  refine (carets_calls T _ _ (by omega) H.out).mono ?_
  rintro e w1 ⟨rfl, n, rfl⟩
  go_wp2_with fail
  go_ret
  exact ⟨rfl, n, rfl⟩

set_option maxHeartbeats 1600000 in
set_option maxRecDepth 100000 in
theorem text_calls (T : Tr) : ∀ (p : Option Addr) (w : World), T.carets < 1000000000 → Rep w T p →
    Calls Try.prog 104 #[.pointer p] w fun e w' => e = .returned (.string (tx T)) ∧ ∃ n, w' = w.drewN n := by
  induction T with
  | leaf =>
    rintro p w _ rfl
    go_enter Try.func104, Try.ntmps104
    go_wp2
    go_ret
    exact ⟨rfl, 0, rfl⟩
  | node l r ihl ihr =>
    rintro p w hb hr
    have op := hr.open
    clear hr
    obtain ⟨b, pl, pr, rfl, h0, h1, hl, hr⟩ := op
    have H : Hid (_ ∧ _ ∧ _) := Lib.hid (And.intro hl (And.intro hr hb))
    have zl : (tx l).size ≤ 3000000000 := by have := l.txt_length; simp only [Tr.carets] at hb; show l.txt.length ≤ _; omega
    have zr : (tx r).size ≤ 3000000000 := by have := r.txt_length; simp only [Tr.carets] at hb; show r.txt.length ≤ _; omega
    have bl : l.carets < 1000000000 := by simp only [Tr.carets] at hb; omega
    have br : r.carets < 1000000000 := by simp only [Tr.carets] at hb; omega
    have E := Lib.hid (tx_node l r)
    clear hl hr hb
    go_enter Try.func104, Try.ntmps104
    go_wp2_with fail
    go_quiet (first
      | (go_at_call_of 104 (Value.pointer pl); refine Calls.quiet_of (ihl _ _ bl ?_); exact H.out.1.ext ((Ext.refl _).drewN _))
      | (go_at_call_of 104 (Value.pointer pr); refine Calls.quiet_of (ihr _ _ br ?_); exact H.out.2.1.ext ((Ext.refl _).drewN _)))
    go_wp2_with fail
    go_ret
    exact ⟨by rw [E.out]; rfl, nq, rfl⟩

def ReadPost (w : World) (o : Option (Tr × List UInt8)) (e : Ending) (w' : World) : Prop :=
  Ext w w' ∧ match o with
  | none => e = .returned (.tuple #[.pointer none, .string (S []), .bool false])
  | some (T, l) => ∃ p, e = .returned (.tuple #[.pointer p, .string (S l), .bool true]) ∧ Rep w' T p

set_option maxHeartbeats 1600000 in
set_option maxRecDepth 100000 in
theorem read_calls (n : Nat) : ∀ (l : List UInt8) (s : ByteArray) (w : World), l.length < n → n < 100000 → s = S l → 
    Calls Try.prog 160 #[.string s] w (ReadPost w (rd n l)) := by
  induction n with
  | zero => intro l s w h; omega
  | succ n ih =>
    intro l s w hl hn hs
    cases l with
    | nil =>
      have e0 : (s.toList == []) = true := by rw [hs, S_toList]; rfl
      clear hs
      go_enter Try.func160, Try.ntmps160
      go_wp2
      go_ret3
      exact ⟨Ext.refl _, rfl⟩
    | cons c l =>
      have e0 : (s.toList == []) = false := by rw [hs, S_toList]; rfl
      have z0 : 0 < s.size := by rw [hs, S_size]; simp
      have z1 : (1 : Int) ≤ s.size := by omega
      have x0 : ∀ h : 0 < s.size, ((s[0]'h).toNat : Int) = (c.toNat : Int) := by subst hs; intro h; rfl
      have Ht : Hid (s.extract 1 s.size = S l) := by subst hs; exact S_tail c l
      by_cases c1 : c = 46
      · have t1 : ((c.toNat : Int) == 46) = true := by subst c1; rfl
        have hR : Hid (rd (n + 1) (c :: l) = some (.leaf, l)) := by subst c1; rfl
        clear hs
        go_enter Try.func160, Try.ntmps160
        go_wp2
        go_quiet (fail)
        go_wp2
        go_ret3
        rw [hR.out]
        exact ⟨(Ext.refl _).drewN _, none, by rw [← Ht.out]; rfl, rfl⟩
      · have t1 : ((c.toNat : Int) == 46) = false := byte_ne c1
        by_cases c2 : c = 40
        · have t2 : ((c.toNat : Int) != 40) = false := by subst c2; rfl
          have hR : Hid (rd (n + 1) (c :: l) = match rd n l with
              | none => none
              | some (a, l1) => match rd n l1 with
                | some (b, 41 :: l3) => some (.node a b, l3)
                | _ => none) := by subst c2; rfl
          have hl' : l.length < n := by simpa using hl
          have hlen : ∀ T r, rd n l = some (T, r) → r.length < n := fun T r h => Nat.lt_of_le_of_lt (rd_length h) hl'
          clear hs hl
          go_enter Try.func160, Try.ntmps160
          go_wp2_with fail
          refine (ih l _ _ hl' (by omega) Ht.out).mono ?_
          generalize rd n l = o at *
          rintro e w1 ⟨hx1, hp⟩
          cases o with
          | none =>
            obtain rfl := hp
            go_wp2_with fail
            go_ret3
            rw [hR.out]
            exact ⟨hx1, rfl⟩
          | some ab =>
            obtain ⟨A, l1⟩ := ab
            obtain ⟨p, rfl, hp⟩ := hp
            have hl1 := hlen A l1 rfl
            clear hlen
            go_wp2_with fail
            refine (ih l1 _ _ hl1 (by omega) rfl).mono ?_
            generalize rd n l1 = o at *
            rintro e w2 ⟨hx2, hp2⟩
            cases o with
            | none =>
              obtain rfl := hp2
              go_wp2_with fail
              go_ret3
              rw [hR.out]
              exact ⟨hx1.trans hx2, rfl⟩
            | some ab =>
              obtain ⟨B, l2⟩ := ab
              obtain ⟨q, rfl, hq⟩ := hp2
              cases l2 with
              | nil =>
                have f0 := S_nil
                go_wp2_with fail
                go_ret3
                rw [hR.out]
                exact ⟨hx1.trans hx2, rfl⟩
              | cons d l3 =>
                obtain ⟨f0, z0, z1, x0, Ht⟩ := S_facts d l3
                generalize S (d :: l3) = s2 at *
                by_cases c3 : d = 41
                · have t3 : ((d.toNat : Int) != 41) = false := by subst c3; rfl
                  have HR := Lib.hid (And.intro (hp.ext hx2) (And.intro hq (hx1.trans hx2)))
                  clear hp hq hx1 hx2
                  go_wp2_with fail
                  go_region
                  go_wp2_with fail
                  go_ret3
                  rw [hR.out]
                  subst c3
                  exact ⟨(HR.out.2.2.alloc _).drew, _, by rw [← Ht.out]; rfl, (Rep.made HR.out.1 HR.out.2.1).ext ((Ext.refl _).drew)⟩
                · have t3 : ((d.toNat : Int) != 41) = true := byte_bne c3
                  go_wp2_with fail
                  go_ret3
                  rw [hR.out]
                  have : (match (some (B, d :: l3) : Option (Tr × List UInt8)) with | some (b, 41 :: l3) => some (Tr.node A b, l3) | _ => none) = none := by
                    split
                    · rename_i h; simp at h; exact absurd h.2.1 c3
                    · rfl
                  rw [this]
                  exact ⟨hx1.trans hx2, rfl⟩
        · have t2 : ((c.toNat : Int) != 40) = true := byte_bne c2
          have hR : Hid (rd (n + 1) (c :: l) = none) := by simp [Hid, rd, c1, c2]
          clear hs
          go_enter Try.func160, Try.ntmps160
          go_wp2
          go_ret3
          rw [hR.out]
          exact ⟨(Ext.refl _), rfl⟩

theorem parse_yes (T : Tr) (w : World) (hT : T.carets ≤ 8) :
    Calls Try.prog 90 #[.string (tx T)] w fun e w' => ∃ p, e = .returned (.tuple #[.pointer p, .bool true]) ∧ Rep w' T p ∧ Ext w w' := by
  have z : (tx T).size ≤ 25 := by have := T.txt_length; show T.txt.length ≤ _; omega
  have hz : ((tx T).size : Int) ≤ 25 := by omega
  have hc := Lib.hid (read_calls 26 T.txt (tx T) w (by have := T.txt_length; omega) (by omega) rfl)
  have hr := Lib.hid (rd_txt' T 26 (by have := T.depth_le; omega))
  have hc8 : (T.carets : Int) ≤ 8 := by omega
  have f0 : (S []).toList.isEmpty = true := by rw [S_toList]; rfl
  have b8 : T.carets < 1000000000 := by omega
  clear z hT
  go_enter Try.func90, Try.ntmps90
  go_wp2_with fail
  refine hc.out.mono ?_
  rw [hr.out]
  rintro e w1 ⟨hx, p, rfl, hp⟩
  have H := Lib.hid (And.intro hx hp)
  clear hx hp
  go_wp2_with fail
  refine (carets_calls T _ _ b8 H.out.2).mono ?_
  rintro e w2 ⟨rfl, n, rfl⟩
  go_wp2_with fail
  go_ret2
  exact ⟨p, rfl, H.out.2.ext ((Ext.refl _).drewN _), H.out.1.drewN _⟩

theorem parse_no (s : ByteArray) (w : World) (hT : ¬ ∃ T, s = tx T ∧ T.carets ≤ 8) :
    Calls Try.prog 90 #[.string s] w fun e w' => e = .returned (.tuple #[.pointer none, .bool false]) ∧ Ext w w' := by
  by_cases z : s.size ≤ 25
  · have hz : (s.size : Int) ≤ 25 := by omega
    have hl : s.toList.length ≤ 25 := by have := S_of s; rw [this, S_size] at z; exact z
    have hc := Lib.hid (read_calls 26 s.toList s w (by omega) (by omega) (S_of s))
    have hT' := Lib.hid hT
    clear z hT
    cases hr : rd 26 s.toList with
    | none =>
      have hr' := Lib.hid hr
      clear hr
      go_enter Try.func90, Try.ntmps90
      go_wp2_with fail
      refine hc.out.mono ?_
      rw [hr'.out]
      rintro e w1 ⟨hx, rfl⟩
      go_wp2_with fail
      go_ret2
      exact ⟨rfl, hx⟩
    | some x =>
      obtain ⟨T, r⟩ := x
      obtain ⟨e1, e2⟩ := rd_some hr
      have hr' := Lib.hid hr
      clear hr
      cases r with
      | cons c r =>
        have f0 : (S (c :: r)).toList.isEmpty = false := by rw [S_toList]; rfl
        clear e1 e2
        go_enter Try.func90, Try.ntmps90
        go_wp2_with fail
        refine hc.out.mono ?_
        rw [hr'.out]
        rintro e w1 ⟨hx, p, rfl, hp⟩
        go_wp2_with fail
        go_ret2
        exact ⟨rfl, hx⟩
      | nil =>
        have f0 : (S []).toList.isEmpty = true := by rw [S_toList]; rfl
        have hn : 8 < T.carets := by
          apply Nat.lt_of_not_le
          intro h8
          refine hT'.out ⟨T, ?_, h8⟩
          rw [S_of s, e1]; simp [tx]
        have hm : T.carets < 1000000000 := by
          have := T.txt_length
          rw [e1] at hl
          simp at hl
          omega
        have hn' : (8 : Int) < (T.carets : Int) := by omega
        clear e1 e2 hl hn
        go_enter Try.func90, Try.ntmps90
        go_wp2_with fail
        refine hc.out.mono ?_
        rw [hr'.out]
        rintro e w1 ⟨hx, p, rfl, hp⟩
        have H := Lib.hid (And.intro hx hp)
        clear hx hp
        go_wp2_with fail
        refine (carets_calls T _ _ hm H.out.2).mono ?_
        rintro e w2 ⟨rfl, n, rfl⟩
        go_wp2_with fail
        go_ret2
        exact ⟨rfl, H.out.1.drewN _⟩
  · have hz : (25 : Int) < s.size := by omega
    clear z
    go_enter Try.func90, Try.ntmps90
    go_wp2_with fail
    go_ret2
    exact ⟨rfl, Ext.refl _⟩

end Go.Proofs.Ytpmmajfdcicjiaa.N
