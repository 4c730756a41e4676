import Derived.Test.YtpmmajfdcicjiaaGreatG1RFnHalvesAndShifts
import Derived.Test.YtpmmajfdcicjiaaGreatG2RFnHalvesAndShifts
import Derived.Test.YtpmmajfdcicjiaaGreatProg
import Derived.Test.YtpmmajfdcicjiaaGreatG3RFnHalvesAndShifts
import Derived.Test.YtpmmajfdcicjiaaGreatG10RFnHalvesAndShifts
import Derived.Test.YtpmmajfdcicjiaaGreatG22RFnHalvesAndShifts
import Derived.Test.YtpmmajfdcicjiaaGreatG21RFnHalvesAndShifts
import Derived.Test.YtpmmajfdcicjiaaGreatG23RFnHalvesAndShifts
import Derived.Test.YtpmmajfdcicjiaaGreatG5RFnHalvesAndShifts
import Derived.Test.YtpmmajfdcicjiaaGreatG6RFnHalvesAndShifts
import Derived.Test.YtpmmajfdcicjiaaGreatG7RFnHalvesAndShifts
import Derived.Test.YtpmmajfdcicjiaaGreatG24RFnHalvesAndShifts
import Derived.Test.YtpmmajfdcicjiaaGreatG8RFnHalvesAndShifts
import Derived.Deep.LoopGhost
import Derived.Deep.QuietTactic
import Derived.BigQuiet
import Derived.Deep.RegionHeld3
import Derived.Deep.OwnRows
import Derived.Test.YtpmmajfdcicjiaaGreatG16RFnHalvesAndShifts
import Derived.Test.YtpmmajfdcicjiaaGreatG13RFnHalvesAndShifts
/- Does a table keep the values of a pair: the reference. -/
namespace Go.Proofs.YtpmmajfdcicjiaaGreat.N
open Go.RowKit
set_option linter.unusedVariables false
set_option linter.unusedSimpArgs false

def Keeps (n : Nat) (g : Nat → Nat → Nat) (A B : Tr) (pre : List Nat) : Prop :=
  ∀ zs : List Nat, pre.length + zs.length = A.carets + 1 → (∀ z ∈ zs, z < n) → val g A (pre ++ zs) = val g B (pre ++ zs)
theorem keeps_step {n : Nat} {g : Nat → Nat → Nat} {A B : Tr} {pre : List Nat} (h : pre.length < A.carets + 1) : Keeps n g A B pre ↔ ∀ x, x < n → Keeps n g A B (pre ++ [x]) := by
  constructor
  · intro hk x hx zs hl hz
    have := hk (x :: zs) (by simp at hl ⊢; omega) (by intro z hm; rcases List.mem_cons.1 hm with rfl | hm; exact hx; exact hz z hm)
    simpa using this
  · intro hk zs hl hz
    cases zs with
    | nil => simp at hl; omega
    | cons x zs =>
      have := hk x (hz x List.mem_cons_self) zs (by simp at hl ⊢; omega) (fun z hm => hz z (List.mem_cons_of_mem _ hm))
      simpa using this
theorem keeps_end {n : Nat} {g : Nat → Nat → Nat} {A B : Tr} {pre : List Nat} (h : pre.length = A.carets + 1) : Keeps n g A B pre ↔ val g A pre = val g B pre := by
  constructor
  · intro hk
    have := hk [] (by simpa using h) (by simp)
    simpa using this
  · intro he zs hl _
    have : zs = [] := List.eq_nil_of_length_eq_zero (by omega)
    subst this
    simpa using he
theorem keeps_dig {n : Nat} (hn : 0 < n) {g : Nat → Nat → Nat} {A B : Tr} : Keeps n g A B [] ↔ ∀ q, q < n ^ (A.carets + 1) → val g A (dig n (A.carets + 1) q) = val g B (dig n (A.carets + 1) q) := by
  constructor
  · intro hk q _
    have := hk (dig n (A.carets + 1) q) (by simp [dig_length]) (dig_lt hn _ _)
    simpa using this
  · intro hk zs hl hz
    simp only [List.length_nil, Nat.zero_add] at hl
    obtain ⟨q, hq, e⟩ := dig_all hn zs hz
    rw [hl] at hq e
    have := hk q hq
    rw [e] at this
    simpa using this
theorem lt_snoc {n : Nat} {pre : List Nat} {x : Nat} (hp : ∀ y ∈ pre, y < n) (hx : x < n) : ∀ y ∈ pre ++ [x], y < n := by
  intro y hy
  rcases List.mem_append.1 hy with hy | hy
  · exact hp y hy
  · obtain rfl : y = x := by simpa using hy
    exact hx

set_option maxHeartbeats 1600000 in
theorem l1Own_calls (xs : List Int) (hl : xs.length ≤ 1048576) (v : Value) (w : World) (hv : Reads w v (ints xs)) :
    Calls Tryz.prog 130 #[v] w fun e w' => ∃ u, e = .returned u ∧ Own w' w.heap.size 3 u (ints xs) ∧ Ext w w' := by
  have ON : Own (w.alloc (.cells #[] 3)) w.heap.size 3 (.slice (some ⟨w.heap.size, 0, none⟩) 0 0) (ints []) := Own.lit w w.heap.size 3 #[] (Nat.le_refl _) (by show 0 ≤ maxLen; decide)
  have RD := hv.ext ((Ext.refl w).alloc (.cells #[] 3))
  have LL : Hid (((ints []).length + (ints xs).length) * 8 ≤ 140737488355328) := by show _ ≤ _; rw [ints_length, ints_length]; simp only [List.length_nil]; omega
  have LX := Lib.hid ((Ext.refl w).alloc (.cells #[] 3)).size
  obtain ⟨AA, cc, rfl, _, _⟩ := hv
  rw [ints_length] at RD ⊢
  go_enter Tryz.func130, Tryz.ntmps130
  go_wp2_with (at_builtin; refine wpList_app rfl (.tmp 3) (.tmp 4) 45 rfl w.heap.size 3 (.int .i64 0) 8 Tryz.underlying45 infoInt rfl (by omega) _ _ _ (ints xs) rfl rfl ON RD (ints_one _) LL.out LX.out ?_; intro v2 w2 o2 g2 _)
  have X2 := Lib.hid (((Ext.refl w).alloc (.cells #[] 3)).grown g2 ON.lo)
  have O2 := Lib.hid o2
  clear o2 g2 ON RD
  go_wp2_with fail
  go_ret
  exact ⟨_, rfl, O2.out, X2.out⟩

end Go.Proofs.YtpmmajfdcicjiaaGreat.N
/- Words of pairs: the program's and the reference's functions. -/
namespace Go.Proofs.YtpmmajfdcicjiaaGreat.N
open Go.RowKit
set_option linter.unusedVariables false
set_option linter.unusedSimpArgs false

set_option maxHeartbeats 3200000 in
set_option maxRecDepth 100000 in
theorem climbs_calls (T : Tr) : ∀ (k : Nat) (p : Option Addr) (w : World), k + T.carets < 1000000 → Rep w T p →
    Calls Tryz.prog 148 #[.pointer p, .int .i64 k] w (GivesN w (climb T k)) := by
  induction T with
  | leaf =>
    intro k p w hk hr
    obtain rfl := hr
    have OL : Hid (Own (w.alloc (.cells #[.int .i64 k] 3)) w.heap.size 3 (.slice (some ⟨w.heap.size, 0, none⟩) 1 1) (nats [k])) := Own.lit w w.heap.size 3 #[.int .i64 k] (Nat.le_refl _) (by show 1 ≤ maxLen; decide)
    have XL := Lib.hid ((Ext.refl w).alloc (.cells #[.int .i64 k] 3))
    go_enter Tryz.func148, Tryz.ntmps148
    go_wp2_with fail
    go_ret
    exact ⟨_, rfl, OL.out, XL.out⟩
  | node l r ihl ihr =>
    intro k p w hk hr
    obtain ⟨b, pl, pr, rfl, h0, h1, hl, hr'⟩ := hr.open
    simp only [Tr.carets] at hk
    have H := Lib.hid (And.intro hl hr')
    have W1 : Hid ((k : Int) + 1 = ((k + 1 : Nat) : Int)) := by show _ = _; omega
    have W2 : IntKind.i64.wrap ((k : Int) + 1) = (k : Int) + 1 := wrap_ok (by omega)
    have kb : (0 : Int) ≤ k ∧ (k : Int) < 1000000 := by omega
    have HC : Hid (k + 1 + l.carets < 1000000 ∧ 0 + r.carets < 1000000) := ⟨by omega, by omega⟩
    have L2 : Hid (((nats (climb l (k + 1))).length + (nats (climb r 0)).length) * 8 ≤ 140737488355328) := by show _ ≤ _; rw [nats_length, nats_length, climb_length, climb_length]; omega
    clear hr hl hr' hk
    go_enter Tryz.func148, Tryz.ntmps148
    go_wp2_with fail
    go_region_held3 (fun w' => w'.cell? ⟨b, 0, none⟩ = some (.pointer pl) ∧ w'.cell? ⟨b, 1, none⟩ = some (.pointer pr) ∧ Ext w w')
      (first | with_reducible exact two_cells h0 h1 (Ext.drew (Ext.refl _)) | with_reducible exact two_cells h0 h1 x4 | with_reducible exact two_cells h0 h1 x3 | with_reducible exact two_cells h0 h1 x1 | fail)
      (first
        | (go_at_call_of 148 (Value.pointer pl); rw [W1.out]; refine (ihl _ _ _ HC.out.1 (H.out.1.ext (Ext.refl _).drew)).mono ?_; rintro e w1 ⟨v1, rfl, o1, hx1⟩; have x1 : Ext w w1 := (Ext.refl w).drew.trans hx1)
        | (go_at_call_of 148 (Value.pointer pr); refine (ihr 0 _ _ HC.out.2 (H.out.2.ext x1)).mono ?_; rintro e w3 ⟨v3, rfl, o3, hx3⟩; have x3 := x1.trans hx3)
        | (refine step_app (by rfl) (.tmp 15) (.tmp 20) 45 (by rfl) w.heap.size 3 (.int .i64 0) 8 Tryz.underlying45 infoInt rfl (by omega) _ _ (nats (climb l (k + 1))) (nats (climb r 0)) (by rfl) (by rfl) (o1.ext hx3) o3.reads (nats_one _) L2.out x3.size ?_; intro v4 w4 o4 g4 _; have x4 := x3.grown g4 o1.lo) | fail)
    go_wp2_with fail
    go_ret
    refine ⟨_, rfl, ?_, x4⟩
    rw [nats_append] at o4
    exact o4

theorem far_after {w w' : World} {b base : Nat} {t e : TypeId} {o x y : Value} {xs : List Value} (g : w.grownBy w' o.ownBlock) (O : Own w base e o xs) (h : w.heap[b]? = some (.cells #[x, y] t)) (hne : t ≠ e) : w'.cell? ⟨b, 0, none⟩ = some x ∧ w'.cell? ⟨b, 1, none⟩ = some y :=
  cells_of ((g.block b (Array.getElem?_eq_some_iff.1 h).1 (fun ek => by
    obtain ⟨cs, fr, e⟩ := O.typed b ek.symm
    rw [h] at e
    injection e with e; injection e with _ e
    exact hne e)).trans h)

set_option maxHeartbeats 3200000 in
set_option maxRecDepth 100000 in
theorem exponents_calls (T : Tr) (hT : T.carets < 100000) (p : Option Addr) (w : World) (hr : Rep w T p) :
    Calls Tryz.prog 117 #[.pointer p] w (GivesN w (expT T)) := by
  have HR := Lib.hid (And.intro hr hT)
  clear hr hT
  go_enter Tryz.func117, Tryz.ntmps117
  go_wp2_with fail
  go_loopg [0, 3] T.carets (fun f t o wr => ∃ (U : Tr) (q : Option Addr) (pre : List Nat), t = .pointer q ∧ Hid (U.carets = f) ∧ Hid (pre.length + U.carets ≤ T.carets) ∧ Hid (Rep wr U q) ∧ Hid (expT T = pre ++ expT U) ∧ Hid (Own wr w.heap.size 3 o (nats pre)) ∧ Hid (Ext w wr))
  case atStart => exact ⟨T, p, [], rfl, rfl, Nat.le_of_eq (by simp), HR.out.1, rfl, Own.nil _ _ _, Ext.refl _⟩
  case round =>
    obtain ⟨U, q, pre, rfl, HF, HL, HU, HE, HO, HX⟩ := hrel
    cases U with
    | leaf =>
      obtain rfl : q = none := HU.out
      have O2 := HO.out.ext ((Ext.refl _).alloc (.cells #[.int .i64 0] 3))
      have RL : Hid (Reads (wr.alloc (.cells #[.int .i64 0] 3)) (.slice (some ⟨wr.heap.size, 0, none⟩) 1 1) (nats [0])) := (Own.lit wr 0 3 #[.int .i64 0] (Nat.zero_le _) (by show 1 ≤ maxLen; decide)).reads
      have LL : Hid (((nats pre).length + (nats [0]).length) * 8 ≤ 140737488355328) := by show _ ≤ _; rw [nats_length, nats_length]; have := HL.out; have := HR.out.2; simp only [List.length_singleton]; omega
      have B1 := Lib.hid (HX.out.alloc (.cells #[.int .i64 0] 3)).size
      go_wp2_with (at_builtin; refine wpList_app rfl (.tmp 17) (.tmp 18) 45 rfl w.heap.size 3 (.int .i64 0) 8 Tryz.underlying45 infoInt rfl (by omega) _ _ _ (nats [0]) rfl rfl O2 RL.out (nats_one _) LL.out B1.out ?_; intro v4 w4 o4 g4 _)
      have X4 := Lib.hid ((HX.out.alloc _).grown g4 O2.lo)
      rw [nats_append, show pre ++ [0] = expT T from HE.out.symm] at o4
      have O4 := Lib.hid o4
      clear o4 g4 O2
      go_wp2_with fail
      go_ret
      exact ⟨_, rfl, O4.out, X4.out⟩
    | node l r =>
      obtain ⟨b, pl, pr, rfl, hb, hl, hr⟩ := HU.out
      obtain ⟨c0, c1⟩ := cells_of hb
      have HBB := Lib.hid hb
      have HLE : Hid (pre.length + (1 + l.carets + r.carets) ≤ T.carets) := HL.out
      have CC := Lib.hid (climbs_calls l 0 pl wr (by have := HLE.out; have := HR.out.2; omega) hl)
      have HRR := Lib.hid hr
      have LL : Hid (((nats pre).length + (nats (climb l 0)).length) * 8 ≤ 140737488355328) := by show _ ≤ _; rw [nats_length, nats_length, climb_length]; have := HLE.out; have := HR.out.2; omega
      clear hl hr hb
      go_wp2_with fail
      refine CC.out.mono ?_
      rintro e w2 ⟨v2, rfl, o2, x2⟩
      have X2 := Lib.hid (HX.out.trans x2)
      have O2 := HO.out.ext x2
      have HB2 := Lib.hid (x2.at HBB.out)
      have HR2 := Lib.hid (HRR.out.ext x2)
      have R2 := o2.reads
      have LX := Lib.hid X2.out.size
      clear o2 x2 c0 c1
      go_wp2_with (at_builtin; refine wpList_app rfl (.tmp 10) (.tmp 15) 45 rfl w.heap.size 3 (.int .i64 0) 8 Tryz.underlying45 infoInt rfl (by omega) _ _ _ (nats (climb l 0)) rfl rfl O2 R2 (nats_one _) LL.out LX.out ?_; intro v4 w4 o4 g4 _; obtain ⟨_, c1⟩ := far_after g4 O2 HB2.out (by decide))
      have X4 := Lib.hid (X2.out.grown g4 O2.lo)
      have HR4 := Lib.hid (HR2.out.row O2 (by decide) g4)
      rw [nats_append] at o4
      have O4 := Lib.hid o4
      clear o4 g4 O2
      go_roundg r.carets
      · exact ⟨r, pr, pre ++ climb l 0, rfl, rfl, (by show _ ≤ _; rw [List.length_append, climb_length]; have := HLE.out; omega), HR4.out, (by show _ = _; rw [HE.out, List.append_assoc]; rfl), O4.out, X4.out⟩
      · have := HF.out; simp only [Tr.carets] at this; omega


set_option maxHeartbeats 3200000 in
set_option maxRecDepth 100000 in
theorem wordOf_calls (xs : List Nat) (B : Nat) (hB : ∀ x ∈ xs, x ≤ B) (hb : B ≤ 1000) (hl : xs.length ≤ 1000) (v : Value) (w : World) (hv : Reads w v (nats xs)) :
    Calls Tryz.prog 116 #[v] w fun e w' => ∃ u, e = .returned u ∧ Own w' w.heap.size 3 u (ints (wordL xs)) ∧ Ext w w' := by
  obtain ⟨A, c, rfl, h0n, rd⟩ := hv
  have V : Hid (Reads w (.slice A xs.length c) (nats xs)) := ⟨A, c, by rw [nats_length], h0n, rd⟩
  rw [nats_length] at *
  have HL := Lib.hid (wordT_length xs B hB)
  have HB := Lib.hid hB
  have BB := Lib.hid hb
  clear rd hB hb
  go_enter Tryz.func116, Tryz.ntmps116
  go_wp2_with fail
  go_loopw [8, 3] (fun i o wr => ∃ k : Nat, k ≤ xs.length ∧ i = .int .i64 k ∧ Hid (Own wr w.heap.size 3 o (ints (wordT xs k))) ∧ Hid (Ext w wr)) (fun i _ _ => xs.length - (intOf i).toNat)
  case atStart => exact ⟨0, Nat.zero_le _, rfl, Own.nil _ _ _, Ext.refl _⟩
  case round =>
    obtain ⟨k, hk, rfl, HO, HX⟩ := hrel
    by_cases hlt : k < xs.length
    · obtain ⟨A1, c1', e1, _, rd⟩ := V.out.ext HX.out
      rw [nats_length] at rd e1
      obtain ⟨ad, e2, ca⟩ := rd (by omega)
      injection e1 with e3 e4 e5
      subst e3 e5
      subst e2
      clear e4
      have c1 := ca k _ (nats_get xs k hlt)
      have h0 : (0 : Int) ≤ k := by omega
      have h1 : (k : Int) < xs.length := by omega
      have WS : Hid (wordT xs (k + 1) = wordT xs k ++ List.replicate xs[k] ((k : Int) + 1)) := by
        show _ = _
        simp only [wordT]
        rw [List.getD_eq_getElem?_getD, List.getElem?_eq_getElem hlt]; rfl
      have XB : Hid (xs[k] ≤ B) := HB.out _ (List.getElem_mem hlt)
      have LK := Lib.hid (HL.out k)
      have KB : Hid (B * k ≤ 1000000) := by show _ ≤ _; have := Nat.mul_le_mul BB.out (show k ≤ 1000 by omega); omega
      generalize xs[k] = n at *
      have nb : (n : Int) ≤ 1000 := by have := XB.out; have := BB.out; omega
      clear ca rd
      go_wp2_with fail
      go_loopw [14, 3] (fun i o wr => ∃ j : Nat, j ≤ n ∧ i = .int .i64 j ∧ Hid (Own wr w.heap.size 3 o (ints (wordT xs k ++ List.replicate j ((k : Int) + 1)))) ∧ Hid (Ext w wr)) (fun i _ _ => n - (intOf i).toNat)
      case atStart => exact ⟨0, Nat.zero_le _, rfl, (by simpa [Hid] using HO.out), HX.out⟩
      case round =>
        obtain ⟨j, hj, rfl, HO, HX⟩ := hrel
        by_cases hjn : j < n
        · have j0 : (0 : Int) ≤ j := by omega
          have j1 : (j : Int) < n := by omega
          have O2 := HO.out.ext ((Ext.refl _).alloc (.cells #[.int .i64 ((k : Int) + 1)] 3))
          have RL : Hid (Reads (wr.alloc (.cells #[.int .i64 ((k : Int) + 1)] 3)) (.slice (some ⟨wr.heap.size, 0, none⟩) 1 1) (ints [(k : Int) + 1])) := (Own.lit wr 0 3 #[.int .i64 ((k : Int) + 1)] (Nat.zero_le _) (by show 1 ≤ maxLen; decide)).reads
          have LL : Hid (((ints (wordT xs k ++ List.replicate j ((k : Int) + 1))).length + (ints [(k : Int) + 1]).length) * 8 ≤ 140737488355328) := by
            show _ ≤ _
            rw [ints_length, ints_length, List.length_append, List.length_replicate]
            have := LK.out; have := KB.out; have := XB.out; have := BB.out
            simp only [List.length_singleton]
            omega
          have B1 := Lib.hid (HX.out.alloc (.cells #[.int .i64 ((k : Int) + 1)] 3)).size
          go_wp2_with (at_builtin; refine wpList_app rfl (.tmp 16) (.tmp 19) 45 rfl w.heap.size 3 (.int .i64 0) 8 Tryz.underlying45 infoInt rfl (by omega) _ _ _ (ints [(k : Int) + 1]) rfl rfl O2 RL.out (ints_one _) LL.out B1.out ?_; intro v4 w4 o4 g4 _)
          have X4 := Lib.hid ((HX.out.alloc _).grown g4 O2.lo)
          rw [ints_append, List.append_assoc, ← List.replicate_succ'] at o4
          have O4 := Lib.hid o4
          clear o4 g4 O2
          go_wp2_with fail
          exact ⟨⟨j + 1, by omega, by go_num, O4.out, X4.out⟩, by simp [intOf]; omega⟩
        · have j1 : (n : Int) ≤ j := by omega
          obtain rfl : j = n := by omega
          go_wp2_with fail
          exact ⟨⟨k + 1, by omega, by go_num, by rw [WS.out]; exact HO.out, HX.out⟩, by simp [intOf]; omega⟩
    · have h1 : (xs.length : Int) ≤ k := by omega
      obtain rfl : k = xs.length := by omega
      go_wp2_with fail
      go_ret
      exact ⟨_, rfl, HO.out, HX.out⟩

set_option maxHeartbeats 3200000 in
set_option maxRecDepth 100000 in
theorem inverseOf_calls (ws : List Int) (hl : ws.length ≤ 1000000) (hs : ∀ x ∈ ws, -1000000 ≤ x ∧ x ≤ 1000000) (v : Value) (w : World) (hv : Reads w v (ints ws)) :
    Calls Tryz.prog 118 #[v] w fun e w' => ∃ u, e = .returned u ∧ Own w' w.heap.size 3 u (ints (invL ws)) ∧ Ext w w' := by
  obtain ⟨A, c, rfl, h0n, rd⟩ := hv
  have V : Hid (Reads w (.slice A ws.length c) (ints ws)) := ⟨A, c, by rw [ints_length], h0n, rd⟩
  rw [ints_length] at *
  have HS := Lib.hid hs
  clear rd hs
  go_enter Tryz.func118, Tryz.ntmps118
  go_wp2_with fail
  go_loopw [4, 3] (fun i o wr => ∃ j : Nat, j ≤ ws.length ∧ i = .int .i64 ((ws.length : Int) - 1 - j) ∧ Hid (Own wr w.heap.size 3 o (ints ((invL ws).take j))) ∧ Hid (Ext w wr)) (fun i _ _ => (intOf i + 1).toNat)
  case atStart => exact ⟨0, Nat.zero_le _, by go_num, Own.nil _ _ _, Ext.refl _⟩
  case round =>
    obtain ⟨j, hj, rfl, HO, HX⟩ := hrel
    by_cases hlt : j < ws.length
    · have hn : ws.length - 1 - j < ws.length := by omega
      have hy : ws[ws.length - 1 - j]? = some ws[ws.length - 1 - j] := List.getElem?_eq_getElem hn
      have RS := Lib.hid (invL_step ws j hlt _ hy)
      have YB := HS.out _ (List.getElem_mem hn)
      obtain ⟨A1, c1', e1, _, rd⟩ := V.out.ext HX.out
      rw [ints_length] at rd e1
      obtain ⟨ad, e2, ca⟩ := rd (by omega)
      injection e1 with e3 e4 e5
      subst e3 e5
      subst e2
      clear e4
      have c1 := ca (ws.length - 1 - j) _ (ints_get ws (ws.length - 1 - j) hn)
      have W1 : Hid ((ws.length : Int) - 1 - j = ((ws.length - 1 - j : Nat) : Int)) := by show _ = _; omega
      have W2 : Hid ((ws.length : Int) - 1 - (j + 1 : Nat) = ((ws.length - 1 - j : Nat) : Int) - 1) := by show _ = _; omega
      have ib : ((ws.length - 1 - j : Nat) : Int) < (ws.length : Int) := by omega
      have JL : Hid (((invL ws).take j).length ≤ j) := List.length_take_le _ _
      generalize ws[ws.length - 1 - j] = y at *
      generalize ws.length - 1 - j = i at *
      have i0 : (0 : Int) ≤ i := by omega
      have O2 := HO.out.ext ((Ext.refl _).alloc (.cells #[.int .i64 (-y)] 3))
      have RL : Hid (Reads (wr.alloc (.cells #[.int .i64 (-y)] 3)) (.slice (some ⟨wr.heap.size, 0, none⟩) 1 1) (ints [-y])) := (Own.lit wr 0 3 #[.int .i64 (-y)] (Nat.zero_le _) (by show 1 ≤ maxLen; decide)).reads
      have LL : Hid (((ints ((invL ws).take j)).length + (ints [-y]).length) * 8 ≤ 140737488355328) := by
        show _ ≤ _
        rw [ints_length, ints_length]
        have := JL.out
        simp only [List.length_singleton]
        omega
      have B1 := Lib.hid (HX.out.alloc (.cells #[.int .i64 (-y)] 3)).size
      rw [W1.out]
      clear ca rd hy hn
      go_wp2_with (at_builtin; refine wpList_app rfl (.tmp 12) (.tmp 18) 45 rfl w.heap.size 3 (.int .i64 0) 8 Tryz.underlying45 infoInt rfl (by omega) _ _ _ (ints [-y]) rfl rfl O2 RL.out (ints_one _) LL.out B1.out ?_; intro v4 w4 o4 g4 _)
      have X4 := Lib.hid ((HX.out.alloc _).grown g4 O2.lo)
      rw [ints_append, ← RS.out] at o4
      have O4 := Lib.hid o4
      clear o4 g4 O2 c1
      go_wp2_with fail
      exact ⟨⟨j + 1, by omega, by rw [W2.out], O4.out, X4.out⟩, by simp [intOf]⟩
    · have h1 : (ws.length : Int) - 1 - j < 0 := by omega
      have E : Hid ((invL ws).take j = invL ws) := List.take_of_length_le (by rw [invL_length]; omega)
      have h2 : ¬ (0 : Int) ≤ (ws.length : Int) - 1 - j := by omega
      go_wp2_with fail
      go_ret
      exact ⟨_, rfl, by have := HO.out; rw [E.out] at this; exact this, HX.out⟩

set_option maxHeartbeats 3200000 in
set_option maxRecDepth 100000 in
theorem wdInverse_calls (ws : List Int) (hl : ws.length ≤ 1000000) (hs : ∀ x ∈ ws, -1000000 ≤ x ∧ x ≤ 1000000) (v : Value) (w : World) (hv : Reads w v (ints ws)) :
    Calls Tryz.prog 120 #[v] w fun e w' => ∃ u, e = .returned u ∧ Own w' w.heap.size 3 u (ints (invL ws)) ∧ Ext w w' := by
  obtain ⟨A, c, rfl, h0n, rd⟩ := hv
  have V : Hid (Reads w (.slice A ws.length c) (ints ws)) := ⟨A, c, by rw [ints_length], h0n, rd⟩
  rw [ints_length] at *
  have HS := Lib.hid hs
  clear rd hs
  go_enter Tryz.func120, Tryz.ntmps120
  go_wp2_with fail
  go_loopw [4, 3] (fun i o wr => ∃ j : Nat, j ≤ ws.length ∧ i = .int .i64 ((ws.length : Int) - 1 - j) ∧ Hid (Own wr w.heap.size 3 o (ints ((invL ws).take j))) ∧ Hid (Ext w wr)) (fun i _ _ => (intOf i + 1).toNat)
  case atStart => exact ⟨0, Nat.zero_le _, by go_num, Own.nil _ _ _, Ext.refl _⟩
  case round =>
    obtain ⟨j, hj, rfl, HO, HX⟩ := hrel
    by_cases hlt : j < ws.length
    · have hn : ws.length - 1 - j < ws.length := by omega
      have hy : ws[ws.length - 1 - j]? = some ws[ws.length - 1 - j] := List.getElem?_eq_getElem hn
      have RS := Lib.hid (invL_step ws j hlt _ hy)
      have YB := HS.out _ (List.getElem_mem hn)
      obtain ⟨A1, c1', e1, _, rd⟩ := V.out.ext HX.out
      rw [ints_length] at rd e1
      obtain ⟨ad, e2, ca⟩ := rd (by omega)
      injection e1 with e3 e4 e5
      subst e3 e5
      subst e2
      clear e4
      have c1 := ca (ws.length - 1 - j) _ (ints_get ws (ws.length - 1 - j) hn)
      have W1 : Hid ((ws.length : Int) - 1 - j = ((ws.length - 1 - j : Nat) : Int)) := by show _ = _; omega
      have W2 : Hid ((ws.length : Int) - 1 - (j + 1 : Nat) = ((ws.length - 1 - j : Nat) : Int) - 1) := by show _ = _; omega
      have ib : ((ws.length - 1 - j : Nat) : Int) < (ws.length : Int) := by omega
      have JL : Hid (((invL ws).take j).length ≤ j) := List.length_take_le _ _
      generalize ws[ws.length - 1 - j] = y at *
      generalize ws.length - 1 - j = i at *
      have i0 : (0 : Int) ≤ i := by omega
      have O2 := HO.out.ext ((Ext.refl _).alloc (.cells #[.int .i64 (-y)] 3))
      have RL : Hid (Reads (wr.alloc (.cells #[.int .i64 (-y)] 3)) (.slice (some ⟨wr.heap.size, 0, none⟩) 1 1) (ints [-y])) := (Own.lit wr 0 3 #[.int .i64 (-y)] (Nat.zero_le _) (by show 1 ≤ maxLen; decide)).reads
      have LL : Hid (((ints ((invL ws).take j)).length + (ints [-y]).length) * 8 ≤ 140737488355328) := by
        show _ ≤ _
        rw [ints_length, ints_length]
        have := JL.out
        simp only [List.length_singleton]
        omega
      have B1 := Lib.hid (HX.out.alloc (.cells #[.int .i64 (-y)] 3)).size
      rw [W1.out]
      clear ca rd hy hn
      go_wp2_with (at_builtin; refine wpList_app rfl (.tmp 12) (.tmp 18) 45 rfl w.heap.size 3 (.int .i64 0) 8 Tryz.underlying45 infoInt rfl (by omega) _ _ _ (ints [-y]) rfl rfl O2 RL.out (ints_one _) LL.out B1.out ?_; intro v4 w4 o4 g4 _)
      have X4 := Lib.hid ((HX.out.alloc _).grown g4 O2.lo)
      rw [ints_append, ← RS.out] at o4
      have O4 := Lib.hid o4
      clear o4 g4 O2 c1
      go_wp2_with fail
      exact ⟨⟨j + 1, by omega, by rw [W2.out], O4.out, X4.out⟩, by simp [intOf]⟩
    · have h1 : (ws.length : Int) - 1 - j < 0 := by omega
      have E : Hid ((invL ws).take j = invL ws) := List.take_of_length_le (by rw [invL_length]; omega)
      have h2 : ¬ (0 : Int) ≤ (ws.length : Int) - 1 - j := by omega
      go_wp2_with fail
      go_ret
      exact ⟨_, rfl, by have := HO.out; rw [E.out] at this; exact this, HX.out⟩
end Go.Proofs.YtpmmajfdcicjiaaGreat.N
