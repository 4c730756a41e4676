import Derived.Test.YtpmmajfdcicjiaaG1RFnRotationsMade
import Derived.Test.YtpmmajfdcicjiaaG2RFnRotationsMade
import Derived.Test.YtpmmajfdcicjiaaProg
import Derived.Test.YtpmmajfdcicjiaaG3RFnRotationsMade
import Derived.Test.YtpmmajfdcicjiaaG4RFnRotationsMade
import Derived.Test.YtpmmajfdcicjiaaG6RFnRotationsMade
import Derived.Test.YtpmmajfdcicjiaaG9RFnRotationsMade
import Derived.Test.YtpmmajfdcicjiaaG10RFnRotationsMade
import Derived.Test.YtpmmajfdcicjiaaG5RFnRotationsMade
import Derived.Deep.LoopGhost
import Derived.Deep.RegionHeld3
import Derived.Deep.QuietTactic
import Derived.BigQuiet
import Derived.OwnWalk
/- Tables drawn (printed by mk/db.py). -/
namespace Go.Proofs.Ytpmmajfdcicjiaa.N
open Go.RowKit
set_option linter.unusedVariables false
set_option linter.unusedSimpArgs false

theorem Mv.grown {g : Nat} {w0 w w' : World} {row : Option Nat} (h : Mv g w0 w) (hg : w.grownBy w' row) (hr : ∀ k, row = some k → w0.heap.size ≤ k) : Mv g w0 w' :=
  ⟨hg.os.trans h.os, hg.tape.trans h.tape, hg.output.trans h.output, Nat.le_trans h.size hg.size, fun k hk hne => (hg.block k (Nat.lt_of_lt_of_le hk h.size) (fun e => by have := hr k e.symm; omega)).trans (h.block k hk hne)⟩
theorem Cur.grown {w w' : World} {g m : Nat} {row : Option Nat} (h : Cur w g m) (hg : w.grownBy w' row) (hr : ∀ k, row = some k → g < k) : Cur w' g m := by
  have hl := h.lt
  obtain ⟨A, n, c, a, s, h1, h2, h3, h4⟩ := h
  have hne : ∀ k, k ≤ g → some k ≠ row := fun k hk e => by have := hr k e.symm; omega
  refine ⟨A, n, c, a, s, (hg.block g hl (hne g (Nat.le_refl _))).trans h1, h2, h3, fun hp => ?_⟩
  obtain ⟨ad, e, hb2, hc⟩ := h4 hp
  refine ⟨ad, e, hb2, fun j hj => ?_⟩
  obtain ⟨x, hx, hx2⟩ := hc j hj
  exact ⟨x, hx, (World.cell?_of_block (hg.block (ad.add j).block (by rw [add_block]; omega) (hne _ (by rw [add_block]; omega)))).trans hx2⟩
theorem Rows.mv {w w' : World} {base g m : Nat} {us : List Value} {xss : List (List Int)} (h : Rows w base us xss) (c : Cur w g m) (hm : Mv g w w') : Rows w' base us xss :=
  ⟨h.1, fun r xs e => let ⟨u, a, b⟩ := h.2.1 r xs e; ⟨u, a, b.mv c (by decide) hm⟩, h.2.2⟩
theorem Rows.outer {w w' : World} {base b2 : Nat} {v : Value} {us us2 : List Value} {xss : List (List Int)} (h : Rows w base us xss) (ho : Own w b2 32 v us2) (hg : w.grownBy w' v.ownBlock) : Rows w' base us xss :=
  ⟨h.1, fun r xs e => let ⟨u, a, b⟩ := h.2.1 r xs e; ⟨u, a, b.far hg (fun k hk hu => by
    obtain ⟨cs, fr, e1⟩ := ho.typed k hk
    obtain ⟨cs2, fr2, e2⟩ := b.typed k hu
    rw [e1] at e2
    injection e2 with e2
    injection e2 with _ e3
    exact absurd e3 (by decide))⟩, h.2.2⟩
theorem infoRowI : (Try.prog.info? 32).map (fun i => (i.zero, i.size, i.bytes)) = some (some (.slice none 0 0), 1, 24) := by kernel_rfl

/-- The first row of a table, as it lies in memory. -/
theorem table_first {w : World} {b : Nat} {v : Value} {us : List Value} {xss : List (List Int)} (ho : Own w b 32 v us) (hr : Rows w b us xss) (h : 0 < us.length) :
    ∃ (gO cO : Nat), v = .slice (some ⟨gO, 0, none⟩) us.length cO ∧ ∃ (u0 : Value) (x0 : List Int) (b0 c0 : Nat), us[0]? = some u0 ∧ xss[0]? = some x0 ∧ w.cell? ⟨gO, 0, none⟩ = some u0 ∧ (0 < x0.length → u0 = .slice (some ⟨b0, 0, none⟩) x0.length c0) ∧ Own w b 3 u0 (ints x0) ∧ b ≤ gO := by
  rcases ho.2 with ⟨rfl, h0⟩ | ⟨g, cap, cur, rfl, hb, hh, h1, h2, h3, h4⟩
  · omega
  · obtain ⟨x0, hx0⟩ : ∃ x0, xss[0]? = some x0 := ⟨_, List.getElem?_eq_getElem (by rw [← hr.1]; exact h)⟩
    obtain ⟨u0, hu0, o0⟩ := hr.2.1 0 x0 hx0
    have hc : w.cell? ⟨g, 0, none⟩ = us[0]? := World.ownsRow.cellAt (base := b) (e := 32) (size := 1) (n := us.length) (cap := cap) (xs := us) ho 0 (by omega)
    rcases o0.2 with ⟨rfl, h5⟩ | ⟨b0, c0, _, rfl, _⟩
    · exact ⟨g, cap, rfl, _, x0, 0, 0, hu0, hx0, hc.trans hu0, fun hp => by rw [ints_length] at h5; omega, o0, hb⟩
    · exact ⟨g, cap, rfl, _, x0, b0, c0, hu0, hx0, hc.trans hu0, fun hp => by rw [ints_length], o0, hb⟩
theorem own_form {w : World} {b : Nat} {e : TypeId} {v : Value} {xs : List Value} (h : Own w b e v xs) : ∃ A n c, v = .slice A n c := let ⟨A, c, e, _⟩ := h.reads; ⟨A, _, c, e⟩
/-- A small table of the call's own. -/
def GivesM (w : World) (g m : Nat) (e : Ending) (w' : World) : Prop := ∃ (v : Value) (xss : List (List Int)), e = .returned v ∧ OwnM w' w.heap.size v xss ∧ xss.length ≤ 4 ∧ (∀ xs ∈ xss, xs.length ≤ 3) ∧ 1 ≤ xss.length ∧ Cur w' g m ∧ Mv g w w'
/-- A cell of the first row is set. -/
theorem rows_set0 {w w' : World} {b b0 c0 : Nat} {us : List Value} {xss : List (List Int)} {u0 : Value} {x0 : List Int} {x : Int} (h : Rows w b us xss) (hu0 : us[0]? = some u0) (hx0 : xss[0]? = some x0)
    (e : u0 = .slice (some ⟨b0, 0, none⟩) x0.length c0) (o : w'.ownsRow b 3 1 (.slice (some ⟨b0, 0, none⟩) x0.length c0) x0.length ((ints x0).set 0 (.int .i64 x))) (hg : w.grownBy w' (some b0)) : Rows w' b us (xss.set 0 (x0.set 0 x)) := by
  subst e
  refine ⟨by rw [List.length_set]; exact h.1, fun r xs er => ?_, h.2.2⟩
  by_cases hr : r = 0
  · subst hr
    have : xs = x0.set 0 x := by
      rw [List.getElem?_set_self' ] at er
      rw [hx0] at er
      simpa using er.symm
    subst this
    refine ⟨_, hu0, ?_⟩
    unfold Own
    rw [ints_length, List.length_set]
    have e2 : (ints x0).set 0 (.int .i64 x) = ints (x0.set 0 x) := by simp [ints, List.map_set]
    rw [← e2]
    exact o
  · rw [List.getElem?_set_ne (fun e => hr e.symm)] at er
    obtain ⟨u, hu, ou⟩ := h.2.1 r xs er
    exact ⟨u, hu, ou.far hg (fun k hk => by injection hk with hk; subst hk; exact h.2.2 0 r _ _ (Nat.pos_of_ne_zero hr) hu0 hu b0 rfl)⟩
set_option maxHeartbeats 12800000 in
set_option maxRecDepth 100000 in
theorem product_calls (g m : Nat) (w : World) (h : Cur w g (m + 60)) :
    Calls Try.prog 76 #[.pointer (some ⟨g, 0, none⟩)] w (GivesM w g m) := by
  have C2 := Lib.hid (fun k n (hn : n ≤ 1000000000) W (hh : Cur W g (k + 2)) => pick_calls g k n hn W hh)
  have CM := Lib.hid (fun a b W => l1Most_calls a b W)
  have P1 := Lib.hid (C2.out (m + 58) 3 (by omega) w h)
  have GL := Lib.hid h.lt
  have M0 := Lib.hid (Mv.refl g w)
  clear h
  go_enter Try.func76, Try.ntmps76
  go_wp2_with fail
  refine (P1.out).mono ?_
  rintro e w1 ⟨q, rfl, hq, hc, hm⟩
  have P2 := Lib.hid (C2.out (m + 56) 5 (by omega) w1 hc)
  have M0 := Lib.hid (M0.out.trans hm)
  have q0 : (0 : Int) ≤ q := by omega
  have q3 : (q : Int) < 3 := by omega
  clear hc hm
  go_wp2_with fail
  refine (P2.out).mono ?_
  rintro e w2 ⟨z, rfl, hz, hc, hm⟩
  have HC := Lib.hid hc
  have M0 := Lib.hid (M0.out.trans hm)
  clear hc hm
  obtain ⟨n, hn⟩ : ∃ n : Nat, q + 1 = n := ⟨_, rfl⟩
  have hn3 : n ≤ 3 := by omega
  have hn1 : 1 ≤ n := by omega
  rw [show (1 : Int) + q = (n : Int) from by omega]
  clear hq hn q0 q3
  have n3 : (n : Int) ≤ 3 := by omega
  have n1 : (1 : Int) ≤ n := by omega
  go_wp2_with fail
  go_loopw [5, 6] (fun o i wr => ∃ (k : Nat) (us : List Value) (xss : List (List Int)), i = .int .i64 k ∧ k ≤ n ∧ us.length = k ∧ Hid (Own wr w.heap.size 32 o us) ∧ Hid (Rows wr w.heap.size us xss) ∧ Hid (∀ xs ∈ xss, xs.length = n) ∧ Hid (Cur wr g (m + 16 + 8 * (n - k))) ∧ Hid (Mv g w wr)) (fun _ i _ => n - (intOf i).toNat)
  case atStart => exact ⟨0, [], [], rfl, Nat.zero_le _, rfl, Own.nil _ _ _, Rows.nil _ _, (fun xs h => by cases h), HC.out.less (by omega), M0.out⟩
  case round =>
    obtain ⟨k, us, xss, rfl, hk, hus, HO, HR, HL, HC, HM⟩ := hrel
    generalize wr = wi at *
    have k0 : (0 : Int) ≤ k := by omega
    by_cases hlt : k < n
    · have k1 : (k : Int) < n := by omega
      have BI : Hid (w.heap.size ≤ wi.heap.size ∧ g < wi.heap.size) := ⟨HM.out.size, HC.out.lt⟩
      go_wp2_with fail
      go_loopw [7, 8] (fun u i wr => ∃ (j : Nat) (xs : List Int), j ≤ n ∧ i = .int .i64 j ∧ xs.length = j ∧ Hid (Own wr wi.heap.size 3 u (ints xs)) ∧ Hid (Cur wr g (m + 16 + 8 * (n - (k + 1)) + 2 * (n - j))) ∧ Hid (Mv g w wr) ∧ Hid (Mv g wi wr)) (fun _ i _ => n - (intOf i).toNat)
      case atStart => exact ⟨0, [], Nat.zero_le _, rfl, rfl, Own.nil _ _ _, HC.out.less (by omega), HM.out, Mv.refl _ _⟩
      case round =>
        obtain ⟨j, xs, hj, rfl, hxl, HO2, HC2, HM2, HMi2⟩ := hrel
        have j0 : (0 : Int) ≤ j := by omega
        have HCo := Lib.hid HC2.out
        by_cases hjn : j < n
        · have j1 : (j : Int) < n := by omega
          have nz : ¬ ((n : Int) = 0) := by omega
          have nzb : ((n : Int) == 0) = false := by rw [beq_eq_false_iff_ne]; omega
          obtain ⟨t0, t1, t2, hcs⟩ : ∃ t0 t1 t2 : Bool, ((z : Int) == 0) = t0 ∧ ((z : Int) == 1) = t1 ∧ ((z : Int) == 2) = t2 ∧ (t0 = true ∨ (t0 = false ∧ t1 = true) ∨ (t0 = false ∧ t1 = false ∧ t2 = true) ∨ (t0 = false ∧ t1 = false ∧ t2 = false)) := ⟨_, _, _, rfl, rfl, rfl, by cases (z : Int) == 0 <;> cases (z : Int) == 1 <;> cases (z : Int) == 2 <;> simp⟩
          obtain ⟨b0, b1, b2, hcs⟩ := hcs
          rcases hcs with rfl | ⟨rfl, rfl⟩ | ⟨rfl, rfl, rfl⟩ | ⟨rfl, rfl, rfl⟩
          · obtain ⟨x, hx⟩ : ∃ x : Int, ((k : Int) + j) % n = x := ⟨_, rfl⟩
            have hx2 : ((k : Int) + j).tmod n = x := by rw [Int.tmod_eq_emod_of_nonneg (by omega)]; exact hx
            have O2 := HO2.out.ext ((Ext.refl wr).alloc (.cells #[.int .i64 x] 3))
            have RL : Hid (Reads (wr.alloc (.cells #[.int .i64 x] 3)) (.slice (some ⟨wr.heap.size, 0, none⟩) 1 1) (ints [x])) := (Own.lit wr 0 3 #[.int .i64 x] (Nat.zero_le _) (by show 1 ≤ maxLen; decide)).reads
            have LL : Hid (((ints xs).length + (ints [x]).length) * 8 ≤ 140737488355328) := by show _ ≤ _; rw [ints_length, ints_length]; simp only [List.length_singleton]; omega
            have BB1 : Hid (wi.heap.size ≤ (wr.alloc (.cells #[.int .i64 x] 3)).heap.size) := Nat.le_trans HMi2.out.size ((Ext.refl wr).alloc _).size
            go_wp2_with (at_builtin; refine wpList_app rfl (.tmp 33) (.tmp 39) 32 rfl wi.heap.size 3 (.int .i64 0) 8 Try.underlying32 infoInt rfl (by omega) _ _ _ (ints [x]) rfl rfl O2 RL.out (ints_one _) LL.out BB1.out ?_; intro v4 w4 o4 g4 _)
            have xa := (Ext.refl wr).alloc (.cells #[.int .i64 x] 3)
            have gk := O2.lo
            have HM4 := Lib.hid ((HM2.out.trans (xa.mv g)).grown g4 (fun k hk => Nat.le_trans BI.out.1 (gk k hk)))
            have HMi4 := Lib.hid ((HMi2.out.trans (xa.mv g)).grown g4 gk)
            have HC4 := Lib.hid ((HC2.out.ext xa).grown g4 (fun k hk => Nat.lt_of_lt_of_le BI.out.2 (gk k hk)))
            rw [ints_append] at o4
            have O4 := Lib.hid o4
            clear o4 g4 O2 gk xa
            go_wp2_with fail
            exact ⟨⟨j + 1, xs ++ [x], by omega, by go_num, by simp [hxl], O4.out, HC4.out.less (by omega), HM4.out, HMi4.out⟩, by simp [intOf]; omega⟩
          · have C5 := Lib.hid (CM.out (k : Int) (j : Int))
            generalize (if (j : Int) < k then (k : Int) else (j : Int)) = x at *
            go_wp2_with fail
            refine (C5.out _).mono ?_
            rintro e w4 ⟨rfl, rfl⟩
            have O2 := HO2.out.ext ((Ext.refl wr).alloc (.cells #[.int .i64 x] 3))
            have RL : Hid (Reads (wr.alloc (.cells #[.int .i64 x] 3)) (.slice (some ⟨wr.heap.size, 0, none⟩) 1 1) (ints [x])) := (Own.lit wr 0 3 #[.int .i64 x] (Nat.zero_le _) (by show 1 ≤ maxLen; decide)).reads
            have LL : Hid (((ints xs).length + (ints [x]).length) * 8 ≤ 140737488355328) := by show _ ≤ _; rw [ints_length, ints_length]; simp only [List.length_singleton]; omega
            have BB1 : Hid (wi.heap.size ≤ (wr.alloc (.cells #[.int .i64 x] 3)).heap.size) := Nat.le_trans HMi2.out.size ((Ext.refl wr).alloc _).size
            go_wp2_with (at_builtin; refine wpList_app rfl (.tmp 43) (.tmp 47) 32 rfl wi.heap.size 3 (.int .i64 0) 8 Try.underlying32 infoInt rfl (by omega) _ _ _ (ints [x]) rfl rfl O2 RL.out (ints_one _) LL.out BB1.out ?_; intro v4 w4 o4 g4 _)
            have xa := (Ext.refl wr).alloc (.cells #[.int .i64 x] 3)
            have gk := O2.lo
            have HM4 := Lib.hid ((HM2.out.trans (xa.mv g)).grown g4 (fun k hk => Nat.le_trans BI.out.1 (gk k hk)))
            have HMi4 := Lib.hid ((HMi2.out.trans (xa.mv g)).grown g4 gk)
            have HC4 := Lib.hid ((HC2.out.ext xa).grown g4 (fun k hk => Nat.lt_of_lt_of_le BI.out.2 (gk k hk)))
            rw [ints_append] at o4
            have O4 := Lib.hid o4
            clear o4 g4 O2 gk xa
            go_wp2_with fail
            exact ⟨⟨j + 1, xs ++ [x], by omega, by go_num, by simp [hxl], O4.out, HC4.out.less (by omega), HM4.out, HMi4.out⟩, by simp [intOf]; omega⟩
          · have O2 := HO2.out.ext ((Ext.refl wr).alloc (.cells #[.int .i64 (k : Int)] 3))
            have RL : Hid (Reads (wr.alloc (.cells #[.int .i64 (k : Int)] 3)) (.slice (some ⟨wr.heap.size, 0, none⟩) 1 1) (ints [(k : Int)])) := (Own.lit wr 0 3 #[.int .i64 (k : Int)] (Nat.zero_le _) (by show 1 ≤ maxLen; decide)).reads
            have LL : Hid (((ints xs).length + (ints [(k : Int)]).length) * 8 ≤ 140737488355328) := by show _ ≤ _; rw [ints_length, ints_length]; simp only [List.length_singleton]; omega
            have BB1 : Hid (wi.heap.size ≤ (wr.alloc (.cells #[.int .i64 (k : Int)] 3)).heap.size) := Nat.le_trans HMi2.out.size ((Ext.refl wr).alloc _).size
            go_wp2_with (at_builtin; refine wpList_app rfl (.tmp 51) (.tmp 53) 32 rfl wi.heap.size 3 (.int .i64 0) 8 Try.underlying32 infoInt rfl (by omega) _ _ _ (ints [(k : Int)]) rfl rfl O2 RL.out (ints_one _) LL.out BB1.out ?_; intro v4 w4 o4 g4 _)
            have xa := (Ext.refl wr).alloc (.cells #[.int .i64 (k : Int)] 3)
            have gk := O2.lo
            have HM4 := Lib.hid ((HM2.out.trans (xa.mv g)).grown g4 (fun k hk => Nat.le_trans BI.out.1 (gk k hk)))
            have HMi4 := Lib.hid ((HMi2.out.trans (xa.mv g)).grown g4 gk)
            have HC4 := Lib.hid ((HC2.out.ext xa).grown g4 (fun k hk => Nat.lt_of_lt_of_le BI.out.2 (gk k hk)))
            rw [ints_append] at o4
            have O4 := Lib.hid o4
            clear o4 g4 O2 gk xa
            go_wp2_with fail
            exact ⟨⟨j + 1, xs ++ [(k : Int)], by omega, by go_num, by simp [hxl], O4.out, HC4.out.less (by omega), HM4.out, HMi4.out⟩, by simp [intOf]; omega⟩
          · have C5 := Lib.hid (C2.out (m + 16 + 8 * (n - (k + 1)) + 2 * (n - (j + 1))) n (by omega) wr (HC2.out.less (by omega)))
            go_wp2_with fail
            refine (C5.out).mono ?_
            rintro e w5 ⟨x, rfl, hx, hc, hm⟩
            have HC2 := Lib.hid (hc.less (k := m + 16 + 8 * (n - (k + 1)) + 2 * (n - (j + 1))) (by omega))
            have HO2 := Lib.hid (HO2.out.mv HCo.out (by decide) hm)
            have HM2 := Lib.hid (HM2.out.trans hm)
            have HMi2 := Lib.hid (HMi2.out.trans hm)
            have hxx : (x : Int) < 1000 := by omega
            clear hc hm C5
            have O2 := HO2.out.ext ((Ext.refl w5).alloc (.cells #[.int .i64 (x : Int)] 3))
            have RL : Hid (Reads (w5.alloc (.cells #[.int .i64 (x : Int)] 3)) (.slice (some ⟨w5.heap.size, 0, none⟩) 1 1) (ints [(x : Int)])) := (Own.lit w5 0 3 #[.int .i64 (x : Int)] (Nat.zero_le _) (by show 1 ≤ maxLen; decide)).reads
            have LL : Hid (((ints xs).length + (ints [(x : Int)]).length) * 8 ≤ 140737488355328) := by show _ ≤ _; rw [ints_length, ints_length]; simp only [List.length_singleton]; omega
            have BB1 : Hid (wi.heap.size ≤ (w5.alloc (.cells #[.int .i64 (x : Int)] 3)).heap.size) := Nat.le_trans HMi2.out.size ((Ext.refl w5).alloc _).size
            go_wp2_with (at_builtin; refine wpList_app rfl (.tmp 25) (.tmp 29) 32 rfl wi.heap.size 3 (.int .i64 0) 8 Try.underlying32 infoInt rfl (by omega) _ _ _ (ints [(x : Int)]) rfl rfl O2 RL.out (ints_one _) LL.out BB1.out ?_; intro v4 w4 o4 g4 _)
            have xa := (Ext.refl w5).alloc (.cells #[.int .i64 (x : Int)] 3)
            have gk := O2.lo
            have HM4 := Lib.hid ((HM2.out.trans (xa.mv g)).grown g4 (fun k hk => Nat.le_trans BI.out.1 (gk k hk)))
            have HMi4 := Lib.hid ((HMi2.out.trans (xa.mv g)).grown g4 gk)
            have HC4 := Lib.hid ((HC2.out.ext xa).grown g4 (fun k hk => Nat.lt_of_lt_of_le BI.out.2 (gk k hk)))
            rw [ints_append] at o4
            have O4 := Lib.hid o4
            clear o4 g4 O2 gk xa
            go_wp2_with fail
            exact ⟨⟨j + 1, xs ++ [(x : Int)], by omega, by go_num, by simp [hxl], O4.out, HC4.out.less (by omega), HM4.out, HMi4.out⟩, by simp [intOf]; omega⟩
        · have j1 : (n : Int) ≤ j := by omega
          obtain rfl : j = n := by omega
          have hone0 := HL.out
          obtain ⟨A6, n6, c6, rfl⟩ := own_form HO2.out
          have hone : (Value.slice A6 n6 c6).oneCell' = true := rfl
          have xa := (Ext.refl wr).alloc (.cells #[.slice A6 n6 c6] 32)
          have oa := (HO.out.mv HC.out (by decide) HMi2.out).ext xa
          have RS := Lib.hid ((((HR.out.mv HC.out HMi2.out).ext xa).snoc (HO2.out.ext xa) BI.out.1 HR.out.lt))
          have R7 := (Own.lit wr 0 32 #[.slice A6 n6 c6] (Nat.zero_le _) (by show 1 ≤ maxLen; decide)).reads
          have L7 : Hid ((us.length + ([.slice A6 n6 c6] : List Value).length) * 24 ≤ 140737488355328) := by show _ ≤ _; simp only [List.length_singleton]; omega
          have B7 : Hid (w.heap.size ≤ (wr.alloc (.cells #[.slice A6 n6 c6] 32)).heap.size) := (HM2.out.trans (xa.mv g)).size
          go_wp2_with (at_builtin; refine wpList_app rfl (.tmp 55) (.tmp 57) 26 rfl w.heap.size 32 (.slice none 0 0) 24 Try.underlying26 infoRowI rfl (by omega) _ _ _ [.slice A6 n6 c6] rfl rfl oa R7 (by simpa using hone) L7.out B7.out ?_; intro v8 w8 o8 g8 _)
          have O8 := Lib.hid o8
          have R8 := Lib.hid (RS.out.outer oa g8)
          have M8 := Lib.hid ((HM2.out.trans (xa.mv g)).grown g8 oa.lo)
          have C8 := Lib.hid ((HC2.out.ext xa).grown g8 (fun k hk => Nat.lt_of_lt_of_le GL.out (oa.lo k hk)))
          have L8 : Hid (∀ ys ∈ xss ++ [xs], ys.length = j) := fun ys hy => by
            rcases List.mem_append.1 hy with hy | hy
            · exact HL.out ys hy
            · rw [List.mem_singleton.1 hy]; exact hxl
          clear o8 g8 oa R7 xa
          go_wp2_with fail
          exact ⟨⟨k + 1, us ++ [_], xss ++ [xs], by go_num, by omega, by simp [hus], O8.out, R8.out, L8.out, C8.out.less (by omega), M8.out⟩, by simp [intOf]; omega⟩
    · have k1 : (n : Int) ≤ k := by omega
      obtain rfl : k = n := by omega
      have P4 := Lib.hid (C2.out (m + 14) 14 (by omega) wi (HC.out.less (by omega)))
      go_wp2_with fail
      refine (P4.out).mono ?_
      rintro e w3 ⟨y, rfl, hy, hc, hm⟩
      have HO := Lib.hid (HO.out.mv HC.out (by decide) hm)
      have HR := Lib.hid (HR.out.mv HC.out hm)
      have HM := Lib.hid (HM.out.trans hm)
      have HC := Lib.hid hc
      have XL : Hid (xss.length = k) := by show _ = _; rw [← HR.out.1]; exact hus
      clear hc hm P4
      obtain ⟨t0, t1, hcs⟩ : ∃ t0 t1 : Bool, ((y : Int) == 0) = t0 ∧ ((y : Int) == 1) = t1 ∧ (t0 = true ∨ (t0 = false ∧ t1 = true) ∨ (t0 = false ∧ t1 = false)) := ⟨_, _, rfl, rfl, by cases (y : Int) == 0 <;> cases (y : Int) == 1 <;> simp⟩
      obtain ⟨b0, b1, hcs⟩ := hcs
      rcases hcs with rfl | ⟨rfl, rfl⟩ | ⟨rfl, rfl⟩
      · obtain ⟨gO, cO, rfl, u0, x0, b0, c0, hu0, hx0, cell0, own0, o0, hgO⟩ := table_first HO.out HR.out (by omega)
        have hx0l : x0.length = k := HL.out x0 (List.mem_of_getElem? hx0)
        obtain rfl := own0 (by omega)
        clear own0
        have hne : gO ≠ b0 := fun e => by
          obtain ⟨cs, fr, e1⟩ := HO.out.typed gO rfl
          obtain ⟨cs2, fr2, e2⟩ := o0.typed b0 rfl
          rw [e, e2] at e1
          injection e1 with e1
          injection e1 with _ e3
          exact absurd e3 (by decide)
        have GO : g < gO := Nat.lt_of_lt_of_le GL.out hgO
        have xa := (Ext.refl w3).alloc (.cells #[.int .i64 (-1), .int .i64 k, .int .i64 4611686018427387904] 3)
        have RDL : Reads (w3.alloc (.cells #[.int .i64 (-1), .int .i64 k, .int .i64 4611686018427387904] 3)) (.slice (some ⟨w3.heap.size, 0, none⟩) 3 3) (ints [-1, (k : Int), 4611686018427387904]) := (Own.lit w3 0 3 #[.int .i64 (-1), .int .i64 k, .int .i64 4611686018427387904] (Nat.zero_le _) (by show 3 ≤ maxLen; decide)).reads
        have CA := Lib.hid (fun W (hx : Ext (w3.alloc (.cells #[.int .i64 (-1), .int .i64 k, .int .i64 4611686018427387904] 3)) W) => among_calls g m [-1, (k : Int), 4611686018427387904] (by simp) (by simp) (.slice (some ⟨w3.heap.size, 0, none⟩) 3 3) W (RDL.ext hx) (by
          have := HC.out.lt
          simp only [Value.ownBlock]
          intro e
          injection e with e
          omega) ((HC.out.less (k := m + 2) (by omega)).ext (xa.trans hx)))
        have MA := Lib.hid (fun W (hx : Ext (w3.alloc (.cells #[.int .i64 (-1), .int .i64 k, .int .i64 4611686018427387904] 3)) W) => (xa.trans hx).mv g)
        have D1 : Ext (w3.alloc (.cells #[.int .i64 (-1), .int .i64 k, .int .i64 4611686018427387904] 3)) (w3.alloc (.cells #[.int .i64 (-1), .int .i64 k, .int .i64 4611686018427387904] 3)).drew := (Ext.refl _).drew
        have KX : ∀ w', Mv g w3 w' → w'.cell? ⟨gO, 0, none⟩ = some (.slice (some ⟨b0, 0, none⟩) x0.length c0) := fun w' hm => hm.cell (by simp only; omega) cell0
        have OF := Lib.hid (fun w' (hm : Mv g w3 w') => o0.mv HC.out (by decide) hm)
        have OC : Hid (∀ w', Mv g w3 w' → ∃ z4 : Int, w'.cell? ⟨b0, 0, none⟩ = some (.int .i64 z4) ∧ w'.frozen? ⟨b0, 0, none⟩ = false) := fun w' hm => by
          have o1 := OF.out w' hm
          unfold Own at o1
          rw [ints_length] at o1
          refine ⟨x0[0], ?_, World.ownsRow.frozenAt o1 0⟩
          rw [World.ownsRow.cellAt o1 0 (by omega)]
          exact ints_get x0 0 (by omega)
        clear RDL xa
        have x0p : (0 : Int) < x0.length := by omega
        have usp : (0 : Int) < us.length := by omega
        have kp : (0 : Int) < k := by omega
        have usn : 0 < us.length := by omega
        have x0n : 0 < x0.length := by omega
        have KY : ∀ (w' : World) (v : Value), w'.cell? ⟨gO, 0, none⟩ = some (.slice (some ⟨b0, 0, none⟩) x0.length c0) → (w'.setCell ⟨b0, 0, none⟩ v).cell? ⟨gO, 0, none⟩ = some (.slice (some ⟨b0, 0, none⟩) x0.length c0) := fun w' v h => (World.cell?_of_block (a := ⟨gO, 0, none⟩) (heap_setCell_other w' ⟨b0, 0, none⟩ gO v hne)).trans h
        have HUS := Lib.hid hus
        clear hus hx0l
        go_wp2_with fail
        go_region_held3 (fun w' => w'.cell? ⟨gO, 0, none⟩ = some (.slice (some ⟨b0, 0, none⟩) x0.length c0))
          (first | with_reducible exact KX _ ((Ext.refl _).drew.mv g) | with_reducible exact KX _ (((Ext.refl _).alloc _).mv g) | with_reducible exact KX _ (((Ext.refl _).alloc _).drew.mv g) | with_reducible exact KX _ (((Ext.refl _).drew.alloc _).mv g) | with_reducible exact KX _ x4 | with_reducible exact KY _ _ (KX _ x4) | fail)
          (first
            | (go_at_call 95; (with_reducible refine (CA.out _ D1).mono ?_); rintro e w4 ⟨x, hx, rfl, hc, hm⟩; have x4 := (MA.out _ D1).trans hm; obtain ⟨z4, c4, f4⟩ := OC.out w4 x4)
            | fail)
        all_goals
          obtain ⟨O4, g4⟩ := World.ownsRow.stored (by have := OF.out w4 x4; unfold Own at this; rw [ints_length] at this; exact this) 0 (.int .i64 x)
          have ONE := Lib.hid (HO.out.mv HC.out (by decide) x4)
          have RNE := Lib.hid (HR.out.mv HC.out x4)
          have R5 : Hid (Rows (w4.setCell ⟨b0, 0, none⟩ (.int .i64 x)) w.heap.size us (xss.set 0 (x0.set 0 x))) := rows_set0 RNE.out hu0 hx0 rfl O4 g4
          have O5 := Lib.hid (ONE.out.far g4 (fun q hq => by injection hq with hq; subst hq; simp only [Value.ownBlock]; intro e; injection e with e; exact hne e))
          have BB : w.heap.size ≤ b0 := o0.lo b0 rfl
          have M5 := Lib.hid ((HM.out.trans x4).set1 BB (.int .i64 x) (i := 0))
          have C5 := Lib.hid (hc.set1 (i := 0) (Nat.lt_of_lt_of_le GL.out BB) (.int .i64 x))
          clear O4 g4 c4 f4 x4 hc hm KX KY o0 cell0
          generalize w4.setCell ⟨b0, 0, none⟩ (.int .i64 x) = w5 at *
          go_wp2_with fail
          go_ret
          refine ⟨_, xss.set 0 (x0.set 0 x), rfl, ⟨us, O5.out, R5.out⟩, by rw [List.length_set]; have := XL.out; omega, fun ys hy => ?_, by rw [List.length_set]; have := XL.out; omega, C5.out, M5.out⟩
          rcases List.mem_or_eq_of_mem_set hy with hy | rfl
          · rw [HL.out ys hy]; omega
          · rw [List.length_set, HL.out x0 (List.mem_of_getElem? hx0)]; omega
      · have xb := (Ext.refl w3).alloc (.cells #[.int .i64 0] 3)
        have rz : Own (w3.alloc (.cells #[.int .i64 0] 3)) w3.heap.size 3 (.slice (some ⟨w3.heap.size, 0, none⟩) 1 1) (ints [0]) := Own.lit w3 w3.heap.size 3 #[.int .i64 0] (Nat.le_refl _) (by show 1 ≤ maxLen; decide)
        have HS := Lib.hid (HM.out.size)
        have RS := Lib.hid (((HR.out.ext xb).snoc rz HS.out HR.out.lt))
        have OB := HO.out.ext xb
        have MB := Lib.hid (HM.out.trans (xb.mv g))
        have CB := Lib.hid (HC.out.ext xb)
        have AE : (w3.alloc (.cells #[.int .i64 0] 3)).heap.size = w3.heap.size + 1 := Array.size_push _
        generalize hone : Value.slice (some ⟨w3.heap.size, 0, none⟩) 1 1 = uz at *
        have hone1 : uz.oneCell' = true := by rw [← hone]; rfl
        have xa := (Ext.refl (w3.alloc (.cells #[.int .i64 0] 3))).alloc (.cells #[uz] 32)
        have oa := OB.ext xa
        have R7 := (Own.lit (w3.alloc (.cells #[.int .i64 0] 3)) 0 32 #[uz] (Nat.zero_le _) (by show 1 ≤ maxLen; decide)).reads
        rw [AE] at R7
        have L7 : Hid ((us.length + ([uz] : List Value).length) * 24 ≤ 140737488355328) := by show _ ≤ _; simp only [List.length_singleton]; omega
        have B7 : Hid (w.heap.size ≤ ((w3.alloc (.cells #[.int .i64 0] 3)).alloc (.cells #[uz] 32)).heap.size) := (MB.out.trans (xa.mv g)).size
        have RS := Lib.hid (RS.out.ext xa)
        have MB := Lib.hid (MB.out.trans (xa.mv g))
        have CB := Lib.hid (CB.out.ext xa)
        subst hone
        clear OB xb rz AE
        go_wp2_with (at_builtin; refine wpList_app rfl (.tmp 73) (.tmp 75) 26 rfl w.heap.size 32 (.slice none 0 0) 24 Try.underlying26 infoRowI rfl (by omega) _ _ _ [.slice (some ⟨w3.heap.size, 0, none⟩) 1 1] rfl rfl oa R7 (by simpa using hone1) L7.out B7.out ?_; intro v8 w8 o8 g8 _)
        have O8 := Lib.hid o8
        have R8 := Lib.hid (RS.out.outer oa g8)
        have M8 := Lib.hid (MB.out.grown g8 oa.lo)
        have C8 := Lib.hid (CB.out.grown g8 (fun k hk => Nat.lt_of_lt_of_le GL.out (oa.lo k hk)))
        clear o8 g8 oa R7 xa
        go_wp2_with fail
        go_ret
        exact ⟨_, xss ++ [[0]], rfl, ⟨_, O8.out, R8.out⟩, by have := XL.out; simp; omega, fun ys hy => by
          rcases List.mem_append.1 hy with hy | hy
          · rw [HL.out ys hy]; omega
          · rw [List.mem_singleton.1 hy]; simp, by simp, C8.out.less (by omega), M8.out⟩
      · have HC := Lib.hid (HC.out.less (k := m) (by omega))
        go_wp2_with fail
        go_ret
        exact ⟨_, xss, rfl, ⟨us, HO.out, HR.out⟩, by have := XL.out; omega, fun xs hx => by rw [HL.out xs hx]; omega, by have := XL.out; omega, HC.out, HM.out⟩
end Go.Proofs.Ytpmmajfdcicjiaa.N
/- Draws: bytes at hand, what is drawn for tables. -/
namespace Go.Proofs.Ytpmmajfdcicjiaa.N
open Go.RowKit
set_option linter.unusedVariables false
set_option linter.unusedSimpArgs false

/-- A slice of bytes that can be read. -/
def BytesR (w : World) (v : Value) (n : Nat) : Prop := ∃ A c, v = .slice A n c ∧ n ≤ 1048576 ∧ (0 < n → ∃ ad, A = some ad ∧ ad.block < w.heap.size ∧ ∀ j, j < n → ∃ b : Nat, b < 256 ∧ w.cell? (ad.add j) = some (.int .u8 (b : Nat)))
theorem BytesR.ext {w w' : World} {v : Value} {n : Nat} (h : BytesR w v n) (hx : Ext w w') : BytesR w' v n := by
  obtain ⟨A, c, e, h1, h2⟩ := h
  exact ⟨A, c, e, h1, fun hp => let ⟨ad, ea, hb, hc⟩ := h2 hp; ⟨ad, ea, Nat.lt_of_lt_of_le hb hx.size, fun j hj => let ⟨b, b1, b2⟩ := hc j hj; ⟨b, b1, hx.cell b2⟩⟩⟩
theorem Cur.new {w : World} {v : Value} {n g : Nat} (h : BytesR w v n) (hg : w.heap.size = g) : Cur (w.alloc (.cells #[v, .int .i64 0, .int .u64 0] 88)) g 100000 := by
  subst hg
  obtain ⟨A, c, rfl, h1, h2⟩ := h
  have hx := (Ext.refl w).alloc (.cells #[.slice A n c, .int .i64 0, .int .u64 0] 88)
  exact ⟨A, n, c, 0, 0, heap_alloc_new w _, by omega, h1, fun hp => let ⟨ad, ea, hb, hc⟩ := h2 hp; ⟨ad, ea, hb, fun j hj => let ⟨b, b1, b2⟩ := hc j hj; ⟨b, b1, hx.cell b2⟩⟩⟩

theorem OwnM.set2 {w : World} {b g : Nat} {v : Value} {xss : List (List Int)} (h : OwnM w b v xss) (hT : Two w g 25) {s t : Value} : OwnM (N.set2 w g s t) b v xss := by
  obtain ⟨us, ho, hr⟩ := h
  have hg : w.grownBy (N.set2 w g s t) (some g) := ⟨rfl, rfl, rfl, by simp [N.set2, World.setCell], fun k hk hne => set2_other (fun e => hne (by rw [e])) s t⟩
  have hne : ∀ {e : TypeId} {u : Value} {xs : List Value}, Own w b e u xs → e ≠ 25 → ∀ k, some g = some k → u.ownBlock ≠ some k := fun ou he k hk hu => by
    injection hk with hk
    subst hk
    obtain ⟨cs, fr, e1⟩ := ou.typed _ hu
    obtain ⟨x, y, e2⟩ := hT.at_
    rw [e1] at e2
    injection e2 with e2
    injection e2 with _ e3
    exact he e3
  exact ⟨us, ho.far hg (hne ho (by decide)), hr.1, fun r xs e => let ⟨u, a, c⟩ := hr.2.1 r xs e; ⟨u, a, c.far hg (hne c (by decide))⟩, hr.2.2⟩
set_option maxHeartbeats 6400000 in
set_option maxRecDepth 100000 in
theorem drawKV_calls (v : Value) (n : Nat) (w : World) (h : BytesR w v n) : Calls Try.prog 10 #[v] w fun e w' =>
    ∃ (s t : ByteArray) (u : Value) (xss : List (List Int)), e = .returned (.tuple #[.agg #[.string s, .string t], u]) ∧ s.size ≤ 400 ∧ t.size ≤ 400 ∧ OwnM w' w.heap.size u xss ∧ xss.length ≤ 4 ∧ (∀ xs ∈ xss, xs.length ≤ 3) ∧ Ext w w' := by
  have x0 := (Ext.refl w).alloc (.cells #[.string ⟨#[]⟩, .string ⟨#[]⟩] 25)
  have T0 := Lib.hid (heap_alloc_new w (.cells #[.string ⟨#[]⟩, .string ⟨#[]⟩] 25))
  have S0 : (w.alloc (.cells #[.string ⟨#[]⟩, .string ⟨#[]⟩] 25)).heap.size = w.heap.size + 1 := Array.size_push _
  have c0 := Cur.new (h.ext x0) S0
  have X1 := Lib.hid (x0.alloc (.cells #[v, .int .i64 0, .int .u64 0] 88))
  have P1 := Lib.hid (pair_calls (w.heap.size + 1) 50000 3 (by omega) _ (c0.less (by omega)))
  have T0 := Lib.hid (((Ext.refl (w.alloc (.cells #[.string ⟨#[]⟩, .string ⟨#[]⟩] 25))).alloc (.cells #[v, .int .i64 0, .int .u64 0] 88)).at T0.out)
  have P2 := Lib.hid (fun W hh => product_calls (w.heap.size + 1) 100 W hh)
  obtain ⟨A, c, rfl, _, _⟩ := h
  clear x0 S0 c0
  go_enter Try.func10, Try.ntmps10
  go_wp2_with fail
  generalize (w.alloc (.cells #[.string ⟨#[]⟩, .string ⟨#[]⟩] 25)).alloc (.cells #[.slice A n c, .int .i64 0, .int .u64 0] 88) = W at *
  refine (P1.out).mono ?_
  rintro e w1 ⟨s, t, hs, ht, rfl, hc, hm⟩
  have M1 := Lib.hid hm
  have P3 := Lib.hid (P2.out w1 (hc.less (by omega)))
  have T0 := Lib.hid (hm.at (by omega) T0.out)
  have HST := Lib.hid (And.intro hs ht)
  have X1 := Lib.hid (hm.ext X1.out (by omega))
  clear hc hm hs ht
  go_wp2_with fail
  refine (P3.out).mono ?_
  rintro e w2 ⟨u, xss, rfl, hom, hl, hr, _, hc, hm⟩
  have T0 := hm.at (by omega) T0.out
  have X2 := hm.ext X1.out (by omega)
  have OM := Lib.hid (hom.mono X1.out.size)
  obtain ⟨k0, k1⟩ := cells_of T0
  obtain ⟨f0, f1⟩ := frozen_of T0
  obtain ⟨hc0, hc1⟩ := cells_of (set2_heap (g := w.heap.size) ⟨_, _, T0⟩ (.string s) (.string t))
  have T2 : Two w2 w.heap.size 25 := ⟨_, _, T0⟩
  have OM := Lib.hid (hom.set2 T2 (s := .string s) (t := .string t))
  have OM := Lib.hid (OM.out.mono X1.out.size)
  have X3 := Lib.hid (X2.set2 (Nat.le_refl _) (.string s) (.string t))
  have HL := Lib.hid (And.intro hl hr)
  clear hom hc hm X2 T0 T2 hl hr
  go_wp2_with fail
  change bodyPost _ _ _ _ _ (N.set2 w2 w.heap.size (.string s) (.string t))
  exact bodyPost_ret (v := .tuple #[.agg #[.string s, .string t], u]) (by simp [results, Try.results10, go_sem, hc0, hc1]) rfl ⟨s, t, u, xss, rfl, HST.out.1, HST.out.2, OM.out, HL.out.1, HL.out.2, X3.out⟩

theorem OwnM.mv {w w' : World} {b g m : Nat} {v : Value} {xss : List (List Int)} (h : OwnM w b v xss) (c : Cur w g m) (hm : Mv g w w') : OwnM w' b v xss := by
  obtain ⟨us, ho, hr⟩ := h
  exact ⟨us, ho.mv c (by decide) hm, hr.mv c hm⟩
theorem OwnM.form {w : World} {b : Nat} {v : Value} {xss : List (List Int)} (h : OwnM w b v xss) : ∃ A c, v = .slice A xss.length c := by
  obtain ⟨us, ho, hr⟩ := h
  obtain ⟨A, c, e, _⟩ := ho.reads
  exact ⟨A, c, by rw [e, hr.1]⟩
/-- The first cell of a row is set. -/
theorem Own.set0 {w : World} {b : Nat} {v : Value} {xs : List Int} (h : Own w b 3 v (ints xs)) (h0 : 0 < xs.length) : ∃ b0 c0 z, v = .slice (some ⟨b0, 0, none⟩) xs.length c0 ∧ b ≤ b0 ∧ w.cell? ⟨b0, 0, none⟩ = some (.int .i64 z) ∧ w.frozen? ⟨b0, 0, none⟩ = false ∧
    ∀ w' y, Own w' b 3 v (ints xs) → Own (w'.setCell ⟨b0, 0, none⟩ (.int .i64 y)) b 3 v (ints (xs.set 0 y)) := by
  have h' := h
  rcases h.2 with ⟨rfl, h1⟩ | ⟨g, cap, cur, rfl, hb, _⟩
  · rw [ints_length] at h1; omega
  · refine ⟨g, cap, xs[0], by rw [ints_length], hb, ?_, ?_, fun w' y o => ?_⟩
    · have h2 := h'
      unfold Own at h2
      rw [ints_length] at h2
      rw [World.ownsRow.cellAt h2 0 (by omega)]
      exact ints_get xs 0 (by omega)
    · exact World.ownsRow.frozenAt h' 0
    · have o2 := o
      unfold Own at o2 ⊢
      have := (World.ownsRow.stored o2 0 (.int .i64 y)).1
      rw [ints_length] at this ⊢
      rw [ints_length, List.length_set]
      have e2 : (ints xs).set 0 (.int .i64 y) = ints (xs.set 0 y) := by simp [ints, List.map_set]
      rw [← e2]
      exact this
set_option maxHeartbeats 6400000 in
set_option maxRecDepth 100000 in
theorem drawVT_calls (v : Value) (n : Nat) (w : World) (h : BytesR w v n) : Calls Try.prog 20 #[v] w fun e w' =>
    ∃ (s : ByteArray) (u : Value) (xss : List (List Int)) (r : Value) (xs : List Int), e = .returned (.tuple #[.string s, u, r]) ∧ s.size ≤ 400 ∧ OwnM w' w.heap.size u xss ∧ xss.length ≤ 4 ∧ (∀ xs ∈ xss, xs.length ≤ 3) ∧ Own w' w.heap.size 3 r (ints xs) ∧ xs.length ≤ 401 ∧ Ext w w' := by
  have c0 := Cur.new h rfl
  have X1 := Lib.hid ((Ext.refl w).alloc (.cells #[v, .int .i64 0, .int .u64 0] 88))
  have P1 := Lib.hid (tree_calls w.heap.size 50000 6 (by omega) _ (c0.less (by omega)))
  have P2 := Lib.hid (fun W hh => product_calls w.heap.size 20000 W hh)
  have PP := Lib.hid (fun k n (hn : n ≤ 1000000000) W (hh : Cur W w.heap.size (k + 2)) => pick_calls w.heap.size k n hn W hh)
  have PO := Lib.hid (fun k n (hn : n ≤ 1000000000) W (hh : Cur W w.heap.size (k + 2)) => one_calls w.heap.size k n hn W hh)
  obtain ⟨A, c, rfl, _, _⟩ := h
  clear c0
  go_enter Try.func20, Try.ntmps20
  go_wp2_with fail
  generalize w.alloc (.cells #[.slice A n c, .int .i64 0, .int .u64 0] 88) = W at *
  generalize hg : w.heap.size = g at *
  have HG : Hid (w.heap.size ≤ g) := by show _ ≤ _; omega
  refine (P1.out).mono ?_
  rintro e w1 ⟨s, hs, rfl, hc, hm⟩
  have P3 := Lib.hid (P2.out w1 (hc.less (by omega)))
  have X1 := Lib.hid (hm.ext X1.out HG.out)
  have HS := Lib.hid hs
  clear hc hm hs
  go_wp2_with fail
  refine (P3.out).mono ?_
  rintro e w2 ⟨u, xss, rfl, hom, hl, hr, hp, hc, hm⟩
  have X2 := Lib.hid (hm.ext X1.out HG.out)
  have OM : Hid (OwnM w2 w.heap.size u xss) := hom.mono X1.out.size
  have HC2 := Lib.hid hc
  obtain ⟨A2, d2, rfl⟩ := hom.form
  have HL := Lib.hid (And.intro hl hr)
  have CC := Lib.hid (fun W => trCarets_calls s (by have := HS.out; omega) W)
  obtain ⟨q, hq⟩ : ∃ q : Nat, cnt s.toList = q := ⟨_, rfl⟩
  rw [hq] at CC
  have q4 : (q : Int) ≤ 400 := by have := cnt_le s.toList; rw [show s.toList.length = s.size from by rw [ByteArray.toList_eq, Array.length_toList]; rfl] at this; have := HS.out; omega
  have GW : Hid (g < w2.heap.size) := hc.lt
  clear hom hc hm hr hq
  have l4 : (xss.length : Int) ≤ 4 := by omega
  have l1 : (1 : Int) ≤ xss.length := by omega
  go_wp2_with fail
  go_loopw [8, 9] (fun o i wr => ∃ (k : Nat) (xs : List Int), i = .int .i64 k ∧ k ≤ q + 1 ∧ xs.length = k ∧ Hid (Own wr w2.heap.size 3 o (ints xs)) ∧ Hid (Cur wr g (100 + 2 * (402 - k))) ∧ Hid (Mv g w2 wr)) (fun _ i _ => q + 1 - (intOf i).toNat)
  case atStart => exact ⟨0, [], rfl, Nat.zero_le _, rfl, Own.nil _ _ _, HC2.out.less (by omega), Mv.refl _ _⟩
  case round =>
    obtain ⟨k, xs, rfl, hk, hxl, HO, HC, HM⟩ := hrel
    have k0 : (0 : Int) ≤ k := by omega
    by_cases hlt : k ≤ q
    · have k1 : (k : Int) ≤ q := by omega
      have P5 := Lib.hid (PP.out (100 + 2 * (402 - (k + 1))) xss.length (by omega) wr (HC.out.less (by omega)))
      go_wp2_with fail
      refine (CC.out _).mono ?_
      rintro e w3 ⟨rfl, rfl⟩
      go_wp2_with fail
      refine (P5.out).mono ?_
      rintro e w4 ⟨x, rfl, hx, hc, hm⟩
      have O1 := HO.out.mv HC.out (by decide) hm
      have xa := (Ext.refl w4).alloc (.cells #[.int .i64 x] 3)
      have O2 := O1.ext xa
      have RL : Hid (Reads (w4.alloc (.cells #[.int .i64 x] 3)) (.slice (some ⟨w4.heap.size, 0, none⟩) 1 1) (ints [(x : Int)])) := (Own.lit w4 0 3 #[.int .i64 x] (Nat.zero_le _) (by show 1 ≤ maxLen; decide)).reads
      have LL : Hid (((ints xs).length + (ints [(x : Int)]).length) * 8 ≤ 140737488355328) := by show _ ≤ _; rw [ints_length, ints_length]; simp only [List.length_singleton]; omega
      have M4 := HM.out.trans (hm.trans (xa.mv g))
      have BB1 := Lib.hid M4.size
      go_wp2_with (at_builtin; refine wpList_app rfl (.tmp 23) (.tmp 28) 32 rfl w2.heap.size 3 (.int .i64 0) 8 Try.underlying32 infoInt rfl (by omega) _ _ _ (ints [(x : Int)]) rfl rfl O2 RL.out (ints_one _) LL.out BB1.out ?_; intro v4 w5 o4 g4 _)
      have gk := O2.lo
      have HM4 := Lib.hid (M4.grown g4 gk)
      have HC4 := Lib.hid ((hc.ext xa).grown g4 (fun k hk => Nat.lt_of_lt_of_le GW.out (gk k hk)))
      rw [ints_append] at o4
      have O4 := Lib.hid o4
      clear o4 g4 O2 gk xa hc hm M4 O1
      go_wp2_with fail
      exact ⟨⟨k + 1, xs ++ [(x : Int)], by go_num, by omega, by simp [hxl], O4.out, HC4.out, HM4.out⟩, by simp [intOf]; omega⟩
    · have k1 : ¬ ((k : Int) ≤ q) := by omega
      have P5 := Lib.hid (PO.out 50 10 (by omega) wr (HC.out.less (by omega)))
      go_wp2_with fail
      refine (CC.out _).mono ?_
      rintro e w3 ⟨rfl, rfl⟩
      go_wp2_with fail
      refine (P5.out).mono ?_
      rintro e w4 ⟨b, rfl, hc, hm⟩
      have O1 := HO.out.mv HC.out (by decide) hm
      have M1 := Lib.hid (HM.out.trans hm)
      have O1 := Lib.hid O1
      have FINL : Hid (xs.length ≤ 401) := by show _ ≤ _; have := q4; omega
      have HC4 := Lib.hid hc
      have SB : Hid (w.heap.size ≤ w2.heap.size) := by show _ ≤ _; have := GW.out; omega
      clear hc hm P5
      cases b
      · go_wp2_with fail
        go_ret3
        exact ⟨s, _, xss, _, xs, rfl, HS.out, OM.out.mv HC2.out M1.out, HL.out.1, HL.out.2, O1.out.mono SB.out, FINL.out, M1.out.ext X2.out HG.out⟩
      · obtain ⟨b0, e0, z, rfl, hb0, cb, fb, st⟩ := O1.out.set0 (by omega)
        have xa := (Ext.refl w4).alloc (.cells #[.int .i64 (-1), .int .i64 xss.length] 3)
        have RDL : Reads (w4.alloc (.cells #[.int .i64 (-1), .int .i64 xss.length] 3)) (.slice (some ⟨w4.heap.size, 0, none⟩) 2 2) (ints [-1, (xss.length : Int)]) := (Own.lit w4 0 3 #[.int .i64 (-1), .int .i64 xss.length] (Nat.zero_le _) (by show 2 ≤ maxLen; decide)).reads
        have CA := Lib.hid (among_calls g 10 [-1, (xss.length : Int)] (by simp) (by simp) (.slice (some ⟨w4.heap.size, 0, none⟩) 2 2) _ RDL (by
          have := HC4.out.lt
          simp only [Value.ownBlock]
          intro e
          injection e with e
          omega) ((HC4.out.less (by omega)).ext xa))
        have MA := Lib.hid (M1.out.trans (xa.mv g))
        have O2 := Lib.hid (O1.out.ext xa)
        have CA4 := Lib.hid (HC4.out.ext xa)
        have gb : g ≠ b0 := by have := GW.out; omega
        have ST := Lib.hid st
        have xs0 : (0 : Int) < xs.length := by omega
        have xsn : 0 < xs.length := by omega
        clear xa RDL cb fb st O1 HO
        go_wp2_with fail
        refine (CA.out).mono ?_
        rintro e w5 ⟨x, hx, rfl, hc, hm⟩
        have O5 := O2.out.mv CA4.out (by decide) hm
        have M5 := MA.out.trans hm
        obtain ⟨b1, e1, z1, eq1, hb1, cb1, fb1, _⟩ := O5.set0 (by omega)
        injection eq1 with eq1 _ e3
        subst e3
        injection eq1 with eq1
        injection eq1 with eq1 _
        subst eq1
        have M6 := Lib.hid (M5.set1 hb1 (.int .i64 x) (i := 0))
        have O6 := Lib.hid (ST.out w5 x O5)
        clear hc hm M5 O5
        go_wp2_with fail
        generalize w5.setCell ⟨b0, 0, none⟩ (.int .i64 x) = w6 at *
        go_ret3
        exact ⟨s, _, xss, _, xs.set 0 x, rfl, HS.out, OM.out.mv HC2.out M6.out, HL.out.1, HL.out.2, by
          have := O6.out.mono SB.out; rw [hxl] at this; exact this, by rw [List.length_set]; exact FINL.out, M6.out.ext X2.out HG.out⟩

set_option maxHeartbeats 6400000 in
set_option maxRecDepth 100000 in
theorem drawBT_calls (v : Value) (n : Nat) (w : World) (h : BytesR w v n) : Calls Try.prog 22 #[v] w fun e w' =>
    ∃ (s t : ByteArray), e = .returned (.tuple #[.string s, .string t]) ∧ s.size ≤ 400 ∧ t.size ≤ 1000 ∧ Ext w w' := by
  have c0 := Cur.new h rfl
  have X1 := Lib.hid ((Ext.refl w).alloc (.cells #[v, .int .i64 0, .int .u64 0] 88))
  have P1 := Lib.hid (tree_calls w.heap.size 50000 6 (by omega) _ (c0.less (by omega)))
  have PF := Lib.hid (fun k v W hv hb (hh : Cur W w.heap.size (k + 2)) => of_calls w.heap.size k [⟨#[97]⟩, ⟨#[98]⟩, ⟨#[99]⟩, ⟨#[120]⟩, ⟨#[121]⟩, ⟨#[122]⟩] (by simp) (by simp) v W hv hb hh)
  have PO := Lib.hid (fun k n (hn : n ≤ 1000000000) W (hh : Cur W w.heap.size (k + 2)) => one_calls w.heap.size k n hn W hh)
  have PS := Lib.hid (fun k s (hs : s.size ≤ 1000000) W (hh : Cur W w.heap.size (k + 14)) => spoilt_calls w.heap.size k s (S [97, 90, 46, 40]) hs (by rw [S_size]; decide) (by rw [S_size]; decide) W hh)
  obtain ⟨A, c, rfl, _, _⟩ := h
  clear c0
  go_enter Try.func22, Try.ntmps22
  go_wp2_with fail
  generalize w.alloc (.cells #[.slice A n c, .int .i64 0, .int .u64 0] 88) = W at *
  generalize hg : w.heap.size = g at *
  have HG : Hid (w.heap.size ≤ g) := by show _ ≤ _; omega
  refine (P1.out).mono ?_
  rintro e w1 ⟨s, hs, rfl, hc, hm⟩
  have X1 := Lib.hid (hm.ext X1.out HG.out)
  have HS := Lib.hid hs
  have HC1 := Lib.hid hc
  have CC := Lib.hid (fun W => trCarets_calls s (by have := HS.out; omega) W)
  obtain ⟨q, hq⟩ : ∃ q : Nat, cnt s.toList = q := ⟨_, rfl⟩
  rw [hq] at CC
  have q4 : (q : Int) ≤ 400 := by have := cnt_le s.toList; rw [show s.toList.length = s.size from by rw [ByteArray.toList_eq, Array.length_toList]; rfl] at this; have := HS.out; omega
  clear hc hm hs hq
  go_wp2_with fail
  go_loopw [6, 7] (fun o i wr => ∃ (k : Nat) (t : ByteArray), i = .int .i64 k ∧ o = .string t ∧ k ≤ q + 1 ∧ t.size = k ∧ Hid (Cur wr g (100 + 2 * (402 - k))) ∧ Hid (Mv g w1 wr)) (fun _ i _ => q + 1 - (intOf i).toNat)
  case atStart => exact ⟨0, ⟨#[]⟩, rfl, rfl, Nat.zero_le _, rfl, HC1.out.less (by omega), Mv.refl _ _⟩
  case round =>
    obtain ⟨k, t, rfl, rfl, hk, htl, HC, HM⟩ := hrel
    have k0 : (0 : Int) ≤ k := by omega
    by_cases hlt : k ≤ q
    · have k1 : (k : Int) ≤ q := by omega
      have xa := (Ext.refl wr).alloc (.cells #[.string ⟨#[97]⟩, .string ⟨#[98]⟩, .string ⟨#[99]⟩, .string ⟨#[120]⟩, .string ⟨#[121]⟩, .string ⟨#[122]⟩] 9)
      have RDL : Reads (wr.alloc (.cells #[.string ⟨#[97]⟩, .string ⟨#[98]⟩, .string ⟨#[99]⟩, .string ⟨#[120]⟩, .string ⟨#[121]⟩, .string ⟨#[122]⟩] 9)) (.slice (some ⟨wr.heap.size, 0, none⟩) 6 6) (strs [⟨#[97]⟩, ⟨#[98]⟩, ⟨#[99]⟩, ⟨#[120]⟩, ⟨#[121]⟩, ⟨#[122]⟩]) := (Own.lit wr 0 9 #[.string ⟨#[97]⟩, .string ⟨#[98]⟩, .string ⟨#[99]⟩, .string ⟨#[120]⟩, .string ⟨#[121]⟩, .string ⟨#[122]⟩] (Nat.zero_le _) (by show 6 ≤ maxLen; decide)).reads
      have P5 := Lib.hid (PF.out (100 + 2 * (402 - (k + 1))) _ _ RDL (by
        have := HC.out.lt
        simp only [Value.ownBlock]
        intro e
        injection e with e
        omega) ((HC.out.less (by omega)).ext xa))
      have MA := Lib.hid (HM.out.trans (xa.mv g))
      have ts : (t.size : Int) ≤ 1000 := by omega
      clear xa RDL
      go_wp2_with fail
      refine (CC.out _).mono ?_
      rintro e w3 ⟨rfl, rfl⟩
      go_wp2_with fail
      refine (P5.out).mono ?_
      rintro e w4 ⟨x, hx, rfl, hc, hm⟩
      have HX : Hid (x.size = 1) := by
        show _ = _
        simp at hx
        rcases hx with rfl | rfl | rfl | rfl | rfl | rfl <;> rfl
      have HC := Lib.hid hc
      have HM := Lib.hid (MA.out.trans hm)
      have xs1 : (x.size : Int) ≤ 1 := by have := HX.out; omega
      clear hc hm hx
      go_wp2_with fail
      exact ⟨⟨k + 1, t ++ x, by go_num, rfl, by omega, by rw [ByteArray.size_append, htl, HX.out], HC.out, HM.out⟩, by simp [intOf]; omega⟩
    · have k1 : ¬ ((k : Int) ≤ q) := by omega
      have P5 := Lib.hid (PO.out 50 6 (by omega) wr (HC.out.less (by omega)))
      go_wp2_with fail
      refine (CC.out _).mono ?_
      rintro e w3 ⟨rfl, rfl⟩
      go_wp2_with fail
      refine (P5.out).mono ?_
      rintro e w4 ⟨b, rfl, hc, hm⟩
      have M1 := Lib.hid (HM.out.trans hm)
      have P6 := Lib.hid (PS.out 10 t (by omega) w4 (hc.less (by omega)))
      have TL : Hid (t.size ≤ 500) := by show _ ≤ _; omega
      clear hc hm P5
      cases b
      · go_wp2_with fail
        go_ret2
        exact ⟨s, t, rfl, HS.out, by have := TL.out; omega, M1.out.ext X1.out HG.out⟩
      · go_wp2_with fail
        refine (P6.out).mono ?_
        rintro e w5 ⟨r, hr, rfl, hc, hm⟩
        have HR := Lib.hid hr
        have M1 := Lib.hid (M1.out.trans hm)
        clear hc hm hr
        go_wp2_with fail
        go_ret2
        exact ⟨s, r, rfl, HS.out, by have := TL.out; have := HR.out; omega, M1.out.ext X1.out HG.out⟩

def bigB (n m : Nat) : Bool := !decide (n ≤ 1048576 ∧ m ≤ 1048576 - n)
theorem bigB_no {n m : Nat} (h : bigB n m = false) : n ≤ 1048576 ∧ m ≤ 1048576 := by
  unfold bigB at h
  simp at h
  omega
theorem big_calls (n m : Nat) (hm : m ≤ 9223372036854775807) (A B : Option Addr) (c d : Nat) (w : World) :
    Calls Try.prog 9 #[.slice A n c, .slice B m d] w fun e w' => e = .returned (.bool (bigB n m)) ∧ w = w' := by
  by_cases h : n ≤ 1048576
  · have h1 : ¬ ((1048576 : Int) < n) := by omega
    have h2 : (n : Int) ≤ 1048576 := by omega
    have h0 : (0 : Int) ≤ n := by omega
    by_cases k : m ≤ 1048576 - n
    · have k1 : ¬ ((1048576 : Int) - n < m) := by omega
      have hb : bigB n m = false := by unfold bigB; simp; omega
      rw [hb]
      clear hb
      go_enter Try.func9, Try.ntmps9
      go_wp2_with fail
      go_ret
      exact ⟨rfl, rfl⟩
    · have k1 : (1048576 : Int) - n < m := by omega
      have hb : bigB n m = true := by unfold bigB; simp; omega
      rw [hb]
      clear hb
      go_enter Try.func9, Try.ntmps9
      go_wp2_with fail
      go_ret
      exact ⟨rfl, rfl⟩
  · have h1 : (1048576 : Int) < n := by omega
    have hb : bigB n m = true := by unfold bigB; simp; omega
    rw [hb]
    clear hb
    go_enter Try.func9, Try.ntmps9
    go_wp2_with fail
    go_ret
    exact ⟨rfl, rfl⟩
end Go.Proofs.Ytpmmajfdcicjiaa.N
