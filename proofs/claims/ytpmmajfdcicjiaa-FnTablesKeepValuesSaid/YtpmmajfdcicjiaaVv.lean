import Derived.Test.YtpmmajfdcicjiaaBa
import Derived.Test.YtpmmajfdcicjiaaPu
import Derived.Test.YtpmmajfdcicjiaaSl
import Derived.Test.YtpmmajfdcicjiaaProg
import Derived.Test.YtpmmajfdcicjiaaTs
import Derived.Test.YtpmmajfdcicjiaaWl
import Derived.Test.YtpmmajfdcicjiaaWt
import Derived.Test.YtpmmajfdcicjiaaWu
import Derived.Test.YtpmmajfdcicjiaaVt
import Derived.Test.YtpmmajfdcicjiaaVu
import Derived.Test.YtpmmajfdcicjiaaTn
import Derived.Test.YtpmmajfdcicjiaaTp
import Derived.Deep.LoopGhost
import Derived.Deep.QuietTactic
import Derived.BigQuiet
import Derived.Deep.RegionHeld3
import Derived.DataElems
/- The value of a tree under a table: the program and the reference. -/
namespace Go.Proofs.Ytpmmajfdcicjiaa.N
open Go.RowKit
set_option linter.unusedVariables false
set_option linter.unusedSimpArgs false

def val (g : Nat → Nat → Nat) : Tr → List Nat → Nat
  | .leaf, ys => ys.getD 0 0
  | .node l r, ys => g (val g l ys) (val g r (ys.drop (l.carets + 1)))
theorem val_lt {g : Nat → Nat → Nat} {n : Nat} (hg : ∀ i j, i < n → j < n → g i j < n) : ∀ (T : Tr) (ys : List Nat), T.carets < ys.length → (∀ y ∈ ys, y < n) → val g T ys < n
  | .leaf, ys, h, hy => by
    cases ys with
    | nil => simp [Tr.carets] at h
    | cons y ys => exact hy y List.mem_cons_self
  | .node l r, ys, h, hy => by
    simp only [Tr.carets] at h
    exact hg _ _ (val_lt hg l ys (by omega) hy) (val_lt hg r _ (by rw [List.length_drop]; omega) fun y hm => hy y (List.mem_of_mem_drop hm))
theorem val_take (g : Nat → Nat → Nat) : ∀ (T : Tr) (ys : List Nat) (k : Nat), T.carets < k → val g T (ys.take k) = val g T ys
  | .leaf, ys, k, h => by
    cases ys with
    | nil => simp
    | cons y ys => obtain ⟨k, rfl⟩ : ∃ m, k = m + 1 := ⟨k - 1, by simp only [Tr.carets] at h; omega⟩; rfl
  | .node l r, ys, k, h => by
    simp only [Tr.carets] at h
    simp only [val]
    rw [val_take g l ys k (by omega), List.drop_take, val_take g r _ _ (by omega)]
/-- A slice that reads, its capacity no less than its length. -/
def RC (w : World) (v : Value) (xs : List Value) : Prop := Reads w v xs ∧ ∃ A c, v = .slice A xs.length c ∧ xs.length ≤ c
theorem RC.ext {w w' : World} {v : Value} {xs : List Value} (h : RC w v xs) (hx : Ext w w') : RC w' v xs := ⟨h.1.ext hx, h.2⟩
theorem Own.rc {w : World} {base : Nat} {e : TypeId} {v : Value} {xs : List Value} (h : Own w base e v xs) : RC w v xs := by
  refine ⟨h.reads, ?_⟩
  rcases h.2 with ⟨rfl, h0⟩ | ⟨g, cap, cur, rfl, hb, hh, h1, h2⟩
  · exact ⟨none, 0, by rw [h0], by omega⟩
  · exact ⟨_, cap, rfl, h1⟩
/-- Its cells. -/
theorem RC.open {w : World} {v : Value} {ys : List Nat} (h : RC w v (nats ys)) (hp : 0 < ys.length) : ∃ ad c, v = .slice (some ad) ys.length c ∧ ys.length ≤ c ∧ w.cell? (ad.add 0) = some (.int .i64 (ys.getD 0 0 : Nat)) ∧
    (∀ k, k ≤ ys.length → RC w (.slice (some (ad.add k)) (ys.length - k) (c - k)) (nats (ys.drop k))) ∧ ∀ k, k ≤ ys.length → RC w (.slice (some ad) k c) (nats (ys.take k)) := by
  obtain ⟨⟨A, c, e, _, hc⟩, A', c', rfl, hle⟩ := h
  rw [nats_length] at *
  injection e with e1 _ e3
  subst e1 e3
  obtain ⟨ad, rfl, hcell⟩ := hc hp
  have at_ : ∀ j, j < ys.length → w.cell? (ad.add j) = some (.int .i64 (ys.getD j 0 : Nat)) := fun j hj => by
    rw [hcell j _ (nats_get ys j hj), List.getD_eq_getElem?_getD, List.getElem?_eq_getElem hj]; rfl
  refine ⟨ad, c', rfl, hle, at_ 0 hp, fun k hk => ?_, fun k hk => ?_⟩
  · have e1 : (nats (ys.drop k)).length = ys.length - k := by rw [nats_length, List.length_drop]
    refine ⟨⟨some (ad.add k), c' - k, by rw [e1], (fun h => by cases h), fun _ => ⟨_, rfl, fun j u hu => ?_⟩⟩, _, _, by rw [e1], by rw [e1]; omega⟩
    have hj : j < ys.length - k := by rw [← e1]; exact (List.getElem?_eq_some_iff.1 hu).1
    rw [Go.Addr.add_add, at_ (k + j) (by omega), ← hu, nats_get _ _ (by rw [List.length_drop]; exact hj), List.getElem_drop, List.getD_eq_getElem?_getD, List.getElem?_eq_getElem (by omega)]
    rfl
  · have e1 : (nats (ys.take k)).length = k := by rw [nats_length, List.length_take]; omega
    refine ⟨⟨some ad, c', by rw [e1], (fun h => by cases h), fun _ => ⟨_, rfl, fun j u hu => ?_⟩⟩, _, _, by rw [e1], by rw [e1]; omega⟩
    have hj : j < k := by rw [← e1]; exact (List.getElem?_eq_some_iff.1 hu).1
    rw [at_ j (by omega), ← hu, nats_get _ _ (by rw [List.length_take]; omega), List.getElem_take, List.getD_eq_getElem?_getD, List.getElem?_eq_getElem (by omega)]
    rfl
theorem RC.gone (w : World) (ad : Addr) (k : Nat) (ys : List Nat) (h : ys.length ≤ k) : RC w (.slice (some ad) 0 0) (nats (ys.drop k)) := by
  rw [List.drop_eq_nil_of_le h]
  exact ⟨⟨some ad, 0, rfl, (fun h => by cases h), fun h => absurd h (Nat.lt_irrefl _)⟩, some ad, 0, rfl, Nat.le_refl _⟩

set_option maxHeartbeats 3200000 in
set_option maxRecDepth 100000 in
theorem value_calls (n : Nat) (g : Nat → Nat → Nat) (hg : ∀ i j, i < n → j < n → g i j < n) (T : Tr) : ∀ (p : Option Addr) (ys : List Nat) (tv v : Value) (w : World), T.carets < ys.length → ys.length < 1000000 → (∀ y ∈ ys, y < n) → Rep w T p → TabR w tv n g → RC w v (nats ys) →
    Calls Try.prog 81 #[.pointer p, tv, v] w fun e w' => ∃ u, e = .returned (.tuple #[.int .i64 (val g T ys : Nat), u]) ∧ RC w' u (nats (ys.drop (T.carets + 1))) ∧ Ext w w' := by
  induction T with
  | leaf =>
    rintro p ys tv v w hc hlen hy rfl ht hv
    obtain ⟨ad, c, rfl, hle, c0, hd, _⟩ := hv.open (by simp only [Tr.carets] at hc; omega)
    have c0' : w.cell? ad = some (.int .i64 (ys.getD 0 0 : Nat)) := by rw [← c0]; unfold Addr.add; simp
    have HD := Lib.hid (hd 1 (by simp only [Tr.carets] at hc; omega))
    rw [show ad.add 1 = ⟨ad.block, ad.off + 1, none⟩ from by unfold Addr.add; simp] at HD
    have HG := Lib.hid (fun (h : ys.length ≤ 1) W => RC.gone W ad 1 ys h)
    have h1 : (1 : Int) ≤ ys.length := by simp only [Tr.carets] at hc; omega
    have h0 : (0 : Int) < ys.length := by omega
    obtain ⟨ad', c', bd, cc, rfl, _, _⟩ := ht
    clear hc hd hy
    show Calls _ _ _ _ (fun e w' => ∃ u, e = .returned (.tuple #[.int .i64 (ys.getD 0 0 : Nat), u]) ∧ RC w' u (nats (ys.drop 1)) ∧ Ext w w')
    generalize ys.getD 0 0 = x at *
    by_cases hc1 : c = 1
    · subst hc1
      have HG2 := Lib.hid (HG.out hle)
      go_enter Try.func81, Try.ntmps81
      go_wp2_with fail
      go_quiet (fail)
      go_wp2_with fail
      go_ret2
      exact ⟨_, rfl, HG2.out _, (Ext.refl _).drewN _⟩
    · have hc2 : ¬ (c - 1 = 0) := by omega
      go_enter Try.func81, Try.ntmps81
      go_wp2_with fail
      go_quiet (fail)
      go_wp2_with fail
      go_ret2
      exact ⟨_, rfl, HD.out.ext ((Ext.refl _).drewN _), (Ext.refl _).drewN _⟩
  | node l r ihl ihr =>
    rintro p ys tv v w hc hlen hy hr ht hv
    obtain ⟨b, pl, pr, rfl, h0, h1, hl, hr'⟩ := hr.open
    simp only [Tr.carets] at hc
    have HL := Lib.hid hl
    have HR := Lib.hid hr'
    have VL := val_lt hg l ys (by omega) hy
    have VR := val_lt hg r (ys.drop (l.carets + 1)) (by rw [List.length_drop]; omega) fun y hm => hy y (List.mem_of_mem_drop hm)
    have C1 := Lib.hid (fun W hx => ihl pl ys tv v W (by omega) hlen hy (hl.ext hx) (ht.ext hx) (hv.ext hx))
    have C2 := Lib.hid (fun v2 W hx h2 => ihr pr (ys.drop (l.carets + 1)) tv v2 W (by rw [List.length_drop]; omega) (by rw [List.length_drop]; omega) (fun y hm => hy y (List.mem_of_mem_drop hm)) (hr'.ext hx) (ht.ext hx) h2)
    have DD : Hid (nats ((ys.drop (l.carets + 1)).drop (r.carets + 1)) = nats (ys.drop ((Tr.node l r).carets + 1))) := by
      show _ = _
      rw [List.drop_drop]; congr 2; simp only [Tr.carets]; omega
    obtain ⟨ad, c, bd, cc, rfl, hrow, hcell⟩ := ht
    have c1 := hrow _ VL
    have c2 := hcell _ _ VL VR
    show Calls _ _ _ _ (fun e w' => ∃ u, e = .returned (.tuple #[.int .i64 (g (val g l ys) (val g r (ys.drop (l.carets + 1))) : Nat), u]) ∧ RC w' u (nats (ys.drop ((Tr.node l r).carets + 1))) ∧ Ext w w')
    generalize val g l ys = x at *
    generalize val g r (ys.drop (l.carets + 1)) = y at *
    generalize g x y = z at *
    have x0 : (0 : Int) ≤ x ∧ (x : Int) < n := by omega
    have y0 : (0 : Int) ≤ y ∧ (y : Int) < n := by omega
    clear hl hr' hv hy hc hrow hcell hg ihl ihr
    go_enter Try.func81, Try.ntmps81
    go_wp2_with fail
    refine (C1.out w (Ext.refl _)).mono ?_
    rintro e w1 ⟨u1, rfl, r1, x1⟩
    have R1 := Lib.hid r1
    have X1 := Lib.hid x1
    have h1 := x1.cell h1
    clear r1 x1
    go_wp2_with fail
    refine (C2.out u1 _ X1.out R1.out).mono ?_
    rintro e w2 ⟨u2, rfl, r2, x2⟩
    have R2 := Lib.hid r2
    have X2 := Lib.hid (X1.out.trans x2)
    have c1 := X2.out.cell c1
    have c2 := X2.out.cell c2
    clear r2 x2
    go_wp2_with fail
    go_ret2
    exact ⟨_, rfl, by rw [← DD.out]; exact R2.out, X2.out⟩

theorem cells2 {w w' : World} {p q : Addr} {u v : Value} (h0 : w.cell? p = some u) (h1 : w.cell? q = some v) (h : Ext w w') : w'.cell? p = some u ∧ w'.cell? q = some v ∧ Ext w w' := ⟨h.cell h0, h.cell h1, h⟩
set_option maxHeartbeats 3200000 in
set_option maxRecDepth 100000 in
theorem brValue_calls (n : Nat) (g : Nat → Nat → Nat) (hg : ∀ i j, i < n → j < n → g i j < n) (T : Tr) : ∀ (ys : List Nat) (tv v : Value) (w : World), T.carets ≤ 60 → T.carets < ys.length → ys.length < 1000000 → (∀ y ∈ ys, y < n) → TabR w tv n g → RC w v (nats ys) →
    Calls Try.prog 98 #[.string (tx T), tv, v] w fun e w' => e = .returned (.int .i64 (val g T ys : Nat)) ∧ ∃ m, w' = w.drewN m := by
  induction T with
  | leaf =>
    rintro ys tv v w h60 hc hlen hy ht hv
    obtain ⟨ad, c, rfl, hle, c0, hd, _⟩ := hv.open (by simp only [Tr.carets] at hc; omega)
    have c0' : w.cell? ad = some (.int .i64 (ys.getD 0 0 : Nat)) := by rw [← c0]; unfold Addr.add; simp
    have h1 : (1 : Int) ≤ ys.length := by simp only [Tr.carets] at hc; omega
    have h0 : (0 : Int) < ys.length := by omega
    obtain ⟨ad', c', bd, cc, rfl, _, _⟩ := ht
    have C1 := Lib.hid (fun W => trLeaf_leaf W)
    clear hc hd hy h60
    show Calls _ _ _ _ (fun e w' => e = .returned (.int .i64 (ys.getD 0 0 : Nat)) ∧ ∃ m, w' = w.drewN m)
    generalize ys.getD 0 0 = x at *
    generalize tx .leaf = s at *
    go_enter Try.func98, Try.ntmps98
    go_wp2_with fail
    refine (C1.out _).mono ?_
    rintro e w1 ⟨rfl, rfl⟩
    go_wp2_with fail
    go_ret
    exact ⟨rfl, 0, rfl⟩
  | node l r ihl ihr =>
    rintro ys tv v w h60 hc hlen hy ht hv
    simp only [Tr.carets] at hc h60
    obtain ⟨vd, c, rfl, hle, _, hdr, htk⟩ := hv.open (by omega)
    have R2 := hdr (l.carets + 1) (by omega)
    have R1 := htk (l.carets + 1) (by omega)
    have hd : (Tr.node l r).depth ≤ 60 := by have := (Tr.node l r).depth_le; simp only [Tr.carets] at this; omega
    have CS := Lib.hid (fun W => trSides_calls l r hd (by simp only [Tr.carets]; omega) W)
    have CL := Lib.hid (fun W => trLeaf_node l r W)
    have CC := Lib.hid (fun W => trCarets_calls (tx l) (by rw [tx_size]; omega) W)
    rw [show (tx l).toList = l.txt from S_toList _, cnt_txt] at CC
    have VL := val_lt hg l ys (by omega) hy
    have VR := val_lt hg r (ys.drop (l.carets + 1)) (by rw [List.length_drop]; omega) fun y hm => hy y (List.mem_of_mem_drop hm)
    have C1 := Lib.hid (fun W (hx : Ext w W) => ihl (ys.take (l.carets + 1)) tv _ W (by omega) (by rw [List.length_take]; omega) (by rw [List.length_take]; omega) (fun y hm => hy y (List.mem_of_mem_take hm)) (ht.ext hx) (R1.ext hx))
    have C2 := Lib.hid (fun W (hx : Ext w W) => ihr (ys.drop (l.carets + 1)) tv _ W (by omega) (by rw [List.length_drop]; omega) (by rw [List.length_drop]; omega) (fun y hm => hy y (List.mem_of_mem_drop hm)) (ht.ext hx) (R2.ext hx))
    rw [val_take g l ys _ (by omega)] at C1
    obtain ⟨ad, c', bd, cc, rfl, hrow, hcell⟩ := ht
    have c1 := hrow _ VL
    have c2 := hcell _ _ VL VR
    show Calls _ _ _ _ (fun e w' => e = .returned (.int .i64 (g (val g l ys) (val g r (ys.drop (l.carets + 1))) : Nat)) ∧ ∃ m, w' = w.drewN m)
    have W1 : Hid ((l.carets : Int) + 1 = ((l.carets + 1 : Nat) : Int)) := by show _ = _; omega
    have lc : (l.carets : Int) ≤ 60 ∧ (0 : Int) ≤ l.carets := by omega
    generalize val g l ys = x at *
    generalize val g r (ys.drop (l.carets + 1)) = y at *
    generalize g x y = z at *
    have x0 : (0 : Int) ≤ x := by omega
    have x1' : (x : Int) < n := by omega
    have y0 : (0 : Int) ≤ y := by omega
    have y1' : (y : Int) < n := by omega
    obtain ⟨k, hk⟩ : ∃ k, k = l.carets + 1 := ⟨_, rfl⟩
    rw [← hk] at W1 C1 C2
    have k1 : (0 : Int) ≤ k := by omega
    have k2 : (k : Int) ≤ ys.length := by omega
    have k5 : (k : Int) ≤ c := by omega
    have k6 : ¬ (c = k) := by omega
    have k3 : ¬ (c = 0) := by omega
    have k4 : k ≤ ys.length ∧ k ≤ c := by omega
    clear hv hy hc hrow hcell hg ihl ihr R1 R2 hdr htk hd h60 hle hk
    generalize tx (.node l r) = s at *
    generalize tx l = sl at *
    generalize tx r = sr at *
    go_enter Try.func98, Try.ntmps98
    go_wp2_with fail
    refine (CL.out _).mono ?_
    rintro e w1 ⟨rfl, rfl⟩
    go_wp2_with fail
    refine (CS.out _).mono ?_
    rintro e w2 ⟨rfl, n2, rfl⟩
    go_wp2_with fail
    refine (CC.out _).mono ?_
    rintro e w3 ⟨rfl, rfl⟩
    have X3 := Lib.hid ((Ext.refl w).drewN n2)
    have c1 := X3.out.cell c1
    have c2 := X3.out.cell c2
    obtain ⟨W, hW⟩ : ∃ W, W = w.drewN n2 := ⟨_, rfl⟩
    rw [← hW] at X3 c1 c2 ⊢
    have E3 := Lib.hid hW
    clear hW
    go_wp2_with fail
    rw [W1.out]
    go_quiet (first
      | (go_at_call_of 98 (Value.string sl); exact Calls.quiet_of (C1.out _ (X3.out.drewN _)))
      | (go_at_call_of 98 (Value.string sr); exact Calls.quiet_of (C2.out _ (X3.out.drewN _)))
      | fail)
    go_wp2_with fail
    go_ret
    exact ⟨rfl, n2 + nq, by rw [E3.out, World.drewN_drewN]⟩
end Go.Proofs.Ytpmmajfdcicjiaa.N
