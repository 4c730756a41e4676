import Derived.Test.YtpmmajfdcicjiaaG1RFnRotationsMade
import Derived.Test.YtpmmajfdcicjiaaG2RFnRotationsMade
import Derived.Test.YtpmmajfdcicjiaaProg
import Derived.Test.YtpmmajfdcicjiaaG3RFnRotationsMade
import Derived.Test.YtpmmajfdcicjiaaG5RFnRotationsMade
import Derived.Test.YtpmmajfdcicjiaaG6RFnRotationsMade
import Derived.Test.YtpmmajfdcicjiaaG7RFnRotationsMade
import Derived.Test.YtpmmajfdcicjiaaG13RFnRotationsMade
import Derived.Test.YtpmmajfdcicjiaaG22RFnRotationsMade
import Derived.OwnWalk
import Derived.Deep.LoopGhost
import Derived.Deep.RegionHeld3
import Derived.Deep.QuietTactic
import Derived.BigQuiet
import Derived.Test.YtpmmajfdcicjiaaG4RFnRotationsMade
import Derived.Test.YtpmmajfdcicjiaaG8RFnRotationsMade
import Derived.Test.YtpmmajfdcicjiaaG9RFnRotationsMade
import Derived.Test.YtpmmajfdcicjiaaG12RFnRotationsMade
import Derived.Test.YtpmmajfdcicjiaaG14RFnRotationsMade
import Derived.Test.YtpmmajfdcicjiaaG16RFnRotationsMade
import Derived.Test.YtpmmajfdcicjiaaG18RFnRotationsMade
import Derived.Test.YtpmmajfdcicjiaaG19RFnRotationsMade
import Derived.Test.YtpmmajfdcicjiaaG21RFnRotationsMade
import Derived.Test.YtpmmajfdcicjiaaG10RFnRotationsMade
import Derived.Test.YtpmmajfdcicjiaaG11RFnRotationsMade
import Derived.Test.YtpmmajfdcicjiaaG30RFnRotationsMade
import Derived.Test.YtpmmajfdcicjiaaG31RFnRotationsMade
import Derived.Deep.CutRange
import Derived.Laws.Cover1
/- Pairs that do the same: the program's. -/
namespace Go.Proofs.Ytpmmajfdcicjiaa.N
open Go.RowKit
set_option linter.unusedVariables false
set_option linter.unusedSimpArgs false

set_option maxHeartbeats 6400000 in
set_option maxRecDepth 100000 in
theorem same_calls (A B C D : Tr) (hA : A.carets < 100000) (hB : B.carets < 100000) (hC : C.carets < 100000) (hD : D.carets < 100000) (pa pb pc pd : Option Addr) (w : World) (ra : Rep w A pa) (rb : Rep w B pb) (rc : Rep w C pc) (rd : Rep w D pd) :
    Calls Try.prog 116 #[.agg #[.pointer pa, .pointer pb], .agg #[.pointer pc, .pointer pd]] w fun e w' => e = .returned (.bool ((ptx (red (A, B))).toList == (ptx (red (C, D))).toList)) ∧ Ext w w' := by
  have x1 := (Ext.refl w).alloc (.cells #[.pointer pa, .pointer pb] 93)
  have x2 := (Ext.refl (w.alloc (.cells #[.pointer pa, .pointer pb] 93))).alloc (.cells #[.pointer pc, .pointer pd] 93)
  obtain ⟨a0, a1⟩ := cells_of (x2.at (heap_alloc_new w (.cells #[.pointer pa, .pointer pb] 93)))
  have hn := heap_alloc_new (w.alloc (.cells #[.pointer pa, .pointer pb] 93)) (.cells #[.pointer pc, .pointer pd] 93)
  rw [show (w.alloc (.cells #[.pointer pa, .pointer pb] 93)).heap.size = w.heap.size + 1 from Array.size_push _] at hn
  obtain ⟨b0, b1⟩ := cells_of hn
  have X0 := Lib.hid (x1.trans x2)
  have T1 := Lib.hid (fun W (h : Ext w W) => reduced_calls A B (by omega) (by omega) pa pb W (ra.ext h) (rb.ext h))
  have T2 := Lib.hid (fun W (h : Ext w W) => reduced_calls C D (by omega) (by omega) pc pd W (rc.ext h) (rd.ext h))
  have h1 := red_le (A, B)
  have h2 := red_le (C, D)
  simp only at h1 h2
  have P1 := Lib.hid (fun ya yb W (ha : Rep W (red (A, B)).1 ya) (hb : Rep W (red (A, B)).2 yb) => ptext_calls (red (A, B)).1 (red (A, B)).2 (by omega) (by omega) ya yb W ha hb)
  have P2 := Lib.hid (fun ya yb W (ha : Rep W (red (C, D)).1 ya) (hb : Rep W (red (C, D)).2 yb) => ptext_calls (red (C, D)).1 (red (C, D)).2 (by omega) (by omega) ya yb W ha hb)
  rw [show ((red (A, B)).1, (red (A, B)).2) = red (A, B) from rfl] at P1
  rw [show ((red (C, D)).1, (red (C, D)).2) = red (C, D) from rfl] at P2
  generalize ptx (red (A, B)) = u1 at *
  generalize ptx (red (C, D)) = u2 at *
  generalize red (A, B) = q1 at *
  generalize red (C, D) = q2 at *
  clear h1 h2 x1 x2 hn hA hB hC hD ra rb rc rd
  go_enter Try.func116, Try.ntmps116
  go_wp2_with fail
  generalize (w.alloc (.cells #[.pointer pa, .pointer pb] 93)).alloc (.cells #[.pointer pc, .pointer pd] 93) = wb at *
  have KX : ∀ w', Ext wb w' → w'.cell? ⟨w.heap.size, 0, none⟩ = some (.pointer pa) ∧ w'.cell? ⟨w.heap.size, 1, none⟩ = some (.pointer pb) ∧ w'.cell? ⟨w.heap.size + 1, 0, none⟩ = some (.pointer pc) ∧ w'.cell? ⟨w.heap.size + 1, 1, none⟩ = some (.pointer pd) := fun w' h => ⟨h.cell a0, h.cell a1, h.cell b0, h.cell b1⟩
  go_region_held3 (fun w' => w'.cell? ⟨w.heap.size, 0, none⟩ = some (.pointer pa) ∧ w'.cell? ⟨w.heap.size, 1, none⟩ = some (.pointer pb) ∧ w'.cell? ⟨w.heap.size + 1, 0, none⟩ = some (.pointer pc) ∧ w'.cell? ⟨w.heap.size + 1, 1, none⟩ = some (.pointer pd))
    (first | with_reducible exact KX _ (Ext.refl _).drew | with_reducible exact KX _ x3 | with_reducible exact KX _ x4 | with_reducible exact KX _ x5 | with_reducible exact KX _ x6 | fail)
    (first
      | (go_at_call 111; (with_reducible refine (T1.out _ (X0.out.trans (Ext.refl wb).drew)).mono ?_); rintro e w3 ⟨s1, s2, rfl, hr1, hr2, hx3⟩; have x3 := (Ext.refl wb).drew.trans hx3)
      | (go_at_call 173; (with_reducible refine (P1.out _ _ _ hr1 hr2).mono ?_); rintro e w4 ⟨rfl, hx4⟩; have x4 := x3.trans hx4)
      | (go_at_call 111; (with_reducible refine (T2.out _ (X0.out.trans x4)).mono ?_); rintro e w5 ⟨s3, s4, rfl, hr3, hr4, hx5⟩; have x5 := x4.trans hx5)
      | (go_at_call 173; (with_reducible refine (P2.out _ _ _ hr3 hr4).mono ?_); rintro e w6 ⟨rfl, hx6⟩; have x6 := x5.trans hx6)
      | fail)
  all_goals
    have X6 := Lib.hid (X0.out.trans x6)
    go_wp2_with fail
    go_ret
    exact ⟨rfl, X6.out⟩

set_option maxHeartbeats 3200000 in
set_option maxRecDepth 100000 in
theorem AreSame_yes (A B C D : Tr) (hc : A.carets = B.carets) (hB : B.carets ≤ 8) (hd : C.carets = D.carets) (hD : D.carets ≤ 8) (w : World) :
    Calls Try.prog 35 #[.agg #[.string (tx A), .string (tx B)], .agg #[.string (tx C), .string (tx D)]] w fun e w' => e = .returned (.tuple #[.bool ((ptx (red (A, B))).toList == (ptx (red (C, D))).toList), .bool true]) ∧ Ext w w' := by
  have x1 := (Ext.refl w).alloc (.cells #[.string (tx A), .string (tx B)] 25)
  have x2 := (Ext.refl (w.alloc (.cells #[.string (tx A), .string (tx B)] 25))).alloc (.cells #[.string (tx C), .string (tx D)] 25)
  obtain ⟨a0, a1⟩ := cells_of (x2.at (heap_alloc_new w (.cells #[.string (tx A), .string (tx B)] 25)))
  have hn := heap_alloc_new (w.alloc (.cells #[.string (tx A), .string (tx B)] 25)) (.cells #[.string (tx C), .string (tx D)] 25)
  rw [show (w.alloc (.cells #[.string (tx A), .string (tx B)] 25)).heap.size = w.heap.size + 1 from Array.size_push _] at hn
  obtain ⟨b0, b1⟩ := cells_of hn
  have X0 := Lib.hid (x1.trans x2)
  have CT := Lib.hid (fun W => two_yes A B C D hc hB hd hD W)
  have CS := Lib.hid (fun pa pb pc pd W ra rb rc rd => same_calls A B C D (by omega) (by omega) (by omega) (by omega) pa pb pc pd W ra rb rc rd)
  generalize tx A = a at *
  generalize tx B = b at *
  generalize tx C = c at *
  generalize tx D = d at *
  generalize ((ptx (red (A, B))).toList == (ptx (red (C, D))).toList) = res at *
  clear x1 x2 hn
  go_enter Try.func35, Try.ntmps35
  go_wp2_with fail
  generalize (w.alloc (.cells #[.string a, .string b] 25)).alloc (.cells #[.string c, .string d] 25) = wb at *
  refine (CT.out _).mono ?_
  rintro e w1 ⟨pa, pb, pc, pd, rfl, rA, rB, rC, rD, x1⟩
  have xx := ((Ext.refl w1).alloc (.cells #[.pointer pa, .pointer pb] 93)).alloc (.cells #[.pointer pc, .pointer pd] 93)
  have X1 := Lib.hid (X0.out.trans (x1.trans xx))
  have C2 := Lib.hid (CS.out pa pb pc pd _ (rA.ext xx) (rB.ext xx) (rC.ext xx) (rD.ext xx))
  clear rA rB rC rD x1 xx CS
  go_wp2_with fail
  generalize (w1.alloc (.cells #[.pointer pa, .pointer pb] 93)).alloc (.cells #[.pointer pc, .pointer pd] 93) = W1 at *
  refine (C2.out).mono ?_
  rintro e w2 ⟨rfl, x2⟩
  have X2 := Lib.hid (X1.out.trans x2)
  clear x2
  go_wp2_with fail
  go_ret2
  exact ⟨rfl, X2.out⟩
end Go.Proofs.Ytpmmajfdcicjiaa.N
/- FnRotationsMade: what its calls give. -/
namespace Go.Proofs.Ytpmmajfdcicjiaa.N
open Go.RowKit
set_option linter.unusedVariables false
set_option linter.unusedSimpArgs false

theorem place_length : ∀ (T : Tr) (a b : List UInt8), a ∈ T.places b → a.length < b.length + T.carets
  | .leaf, a, b, h => by simp [Tr.places] at h
  | .node l r, a, b, h => by
    simp only [Tr.places, List.mem_cons, List.mem_append] at h
    simp only [Tr.carets]
    rcases h with rfl | h | h
    · omega
    · have := place_length l a _ h; simp at this; omega
    · have := place_length r a _ h; simp at this; omega
theorem turnedR_place {bk : Bool} {T U : Tr} {a : List UInt8} (hT : T.carets ≤ 8) (h : turnT bk a T = some U) : turnedR bk T (S a) = some U := by
  have := place_length T a [] (turnT_place h)
  unfold turnedR
  rw [if_pos (by rw [S_size]; simp at this; omega), S_toList]
  exact h
/-- What the calls on a tree and an address give. -/
structure RotF (t s x y o : ByteArray) (b : Bool) : Prop where
  p1 : ∀ w, Calls Try.prog 30 #[.string t, .string s] w fun e w' => e = .returned (.tuple #[.agg #[.string x, .string y], .bool b]) ∧ Ext w w'
  p2 : ∀ w, Calls Try.prog 31 #[.string t, .string s] w fun e w' => e = .returned (.tuple #[.agg #[.string x, .string y], .bool b]) ∧ Ext w w'
  r1 : ∀ w, Calls Try.prog 32 #[.string t, .string s] w fun e w' => e = .returned (.tuple #[.string o, .bool b]) ∧ Ext w w'
  r2 : ∀ w, Calls Try.prog 33 #[.string t, .string s] w fun e w' => e = .returned (.tuple #[.string o, .bool b]) ∧ Ext w w'
  more : b = true → (∀ w, Calls Try.prog 34 #[.string o, .string s] w fun e w' => e = .returned (.tuple #[.string t, .bool true]) ∧ Ext w w') ∧
    ∀ w, Calls Try.prog 35 #[.agg #[.string x, .string y], .agg #[.string t, .string o]] w fun e w' => e = .returned (.tuple #[.bool true, .bool true]) ∧ Ext w w'
theorem GivesTx.some {w w' : World} {U : Tr} {e : Ending} (h : GivesTx w (some U) e w') : e = .returned (.tuple #[.string (tx U), .bool true]) ∧ Ext w w' := ⟨h.2, h.1⟩
theorem GivesTx.none {w w' : World} {e : Ending} (h : GivesTx w none e w') : e = .returned (.tuple #[.string (S []), .bool false]) ∧ Ext w w' := ⟨h.2, h.1⟩
theorem rotF_of (t s : ByteArray) : ∃ x y o b, RotF t s x y o b := by
  by_cases h : ∃ T U, t = tx T ∧ T.carets ≤ 8 ∧ s.size ≤ 8 ∧ turnT false s.toList T = some U
  · obtain ⟨T, U, rfl, h1, h2, h3⟩ := h
    have e1 : turnedR false T s = some U := by unfold turnedR; rw [if_pos h2]; exact h3
    have hU : U.carets = T.carets := turnT_carets h3
    have e2 : turnedR true U s = some T := by unfold turnedR; rw [if_pos h2]; exact turnT_back h3
    have hs := red_same (p := (T, U)) hU.symm
    have hle := red_le (T, U)
    simp only at hle
    refine ⟨_, _, tx U, true, implRP_yes T U h1 s h2 h3, specRP_yes T U h1 s h2 h3, fun w => ?_, fun w => ?_, fun _ => ⟨fun w => ?_, fun w => ?_⟩⟩
    · have := implRotateAt_yes T h1 s w; rw [e1] at this; exact this.mono fun e w' h => h.some
    · have := specRotateAt_yes T h1 s w; rw [e1] at this; exact this.mono fun e w' h => h.some
    · have := implRotateBack_yes U (by omega) s w; rw [e2] at this; exact this.mono fun e w' h => h.some
    · have := AreSame_yes (red (T, U)).1 (red (T, U)).2 T U hs (by omega) hU.symm (by omega) w
      rw [show ((red (T, U)).1, (red (T, U)).2) = red (T, U) from rfl, red_red] at this
      simpa using this
  · by_cases hT : ∃ T, t = tx T ∧ T.carets ≤ 8
    · obtain ⟨T, rfl, h1⟩ := hT
      have e1 : turnedR false T s = none := by
        unfold turnedR
        split
        · rename_i h2
          cases h3 : turnT false s.toList T with
          | none => rfl
          | some U => exact absurd ⟨T, U, rfl, h1, h2, h3⟩ h
        · rfl
      refine ⟨_, _, S [], false, implRP_no _ s h, specRP_no _ s h, fun w => ?_, fun w => ?_, (fun h => by cases h)⟩
      · have := implRotateAt_yes T h1 s w; rw [e1] at this; exact this.mono fun e w' h => h.none
      · have := specRotateAt_yes T h1 s w; rw [e1] at this; exact this.mono fun e w' h => h.none
    · exact ⟨_, _, S [], false, implRP_no _ s h, specRP_no _ s h, fun w => (implRotateAt_no t hT s w).mono fun e w' h => h.none, fun w => (specRotateAt_no t hT s w).mono fun e w' h => h.none, (fun h => by cases h)⟩

theorem rotB_of (t s : ByteArray) : ∃ (o : ByteArray) (b : Bool), (∀ w, Calls Try.prog 34 #[.string t, .string s] w fun e w' => e = .returned (.tuple #[.string o, .bool b]) ∧ Ext w w') ∧ ∀ w, Calls Try.prog 37 #[.string t, .string s] w fun e w' => e = .returned (.tuple #[.string o, .bool b]) ∧ Ext w w' := by
  by_cases hT : ∃ T, t = tx T ∧ T.carets ≤ 8
  · obtain ⟨T, rfl, h1⟩ := hT
    cases e1 : turnedR true T s with
    | none =>
      refine ⟨S [], false, fun w => ?_, fun w => ?_⟩
      · have := implRotateBack_yes T h1 s w; rw [e1] at this; exact this.mono fun e w' h => h.none
      · have := specRotateBack_yes T h1 s w; rw [e1] at this; exact this.mono fun e w' h => h.none
    | some U =>
      refine ⟨tx U, true, fun w => ?_, fun w => ?_⟩
      · have := implRotateBack_yes T h1 s w; rw [e1] at this; exact this.mono fun e w' h => h.some
      · have := specRotateBack_yes T h1 s w; rw [e1] at this; exact this.mono fun e w' h => h.some
  · exact ⟨S [], false, fun w => (implRotateBack_no t hT s w).mono fun e w' h => h.none, fun w => (specRotateBack_no t hT s w).mono fun e w' h => h.none⟩

/-- What the calls on a tree give: lists of texts, what is at each place of them. -/
structure RotN (u : ByteArray) (ns ps cs : List ByteArray) (c : Nat) (b : Bool) (last : ByteArray) : Prop where
  n1 : ∀ w, Calls Try.prog 38 #[.string u] w (GivesLS w ns b)
  n2 : ∀ w, Calls Try.prog 39 #[.string u] w (GivesLS w ns b)
  p1 : ∀ w, Calls Try.prog 40 #[.string u] w (GivesLS w ps b)
  p2 : ∀ w, Calls Try.prog 41 #[.string u] w (GivesLS w ps b)
  c1 : ∀ w, Calls Try.prog 42 #[.string u] w fun e w' => e = .returned (.tuple #[.int .i64 (c : Nat), .bool b]) ∧ Ext w w'
  c2 : ∀ w, Calls Try.prog 43 #[.string u] w fun e w' => e = .returned (.tuple #[.int .i64 (c : Nat), .bool b]) ∧ Ext w w'
  k1 : ∀ w, Calls Try.prog 46 #[.string u] w (GivesLS w cs b)
  k2 : ∀ w, Calls Try.prog 47 #[.string u] w (GivesLS w cs b)
  ln : ns.length ≤ 1000 ∧ ps.length ≤ 1000 ∧ cs.length ≤ 1000
  len : b = true → ns.length = c
  near : ∀ (i : Nat) (x : ByteArray), ns[i]? = some x → ∃ bs : List ByteArray, bs.length ≤ 1000 ∧ u ∈ bs ∧ ∀ w, Calls Try.prog 38 #[.string x] w (GivesLS w bs true)
  lt : ∀ (i : Nat) (a b : ByteArray), ns[i]? = some a → ns[i + 1]? = some b → Op.bytesLess a.toList b.toList = true
  place : ∀ (i : Nat) (x : ByteArray), ps[i]? = some x → ∃ o, o ∈ ns ∧ ∀ w, Calls Try.prog 32 #[.string u, .string x] w fun e w' => e = .returned (.tuple #[.string o, .bool true]) ∧ Ext w w'
  ends : b = true → 0 < cs.length ∧ cs[0]? = some u ∧ cs[cs.length - 1]? = some last ∧ ∃ m : Nat, (∀ w, Calls Try.prog 25 #[.string u] w fun e w' => e = .returned (.tuple #[.int .i64 m, .bool true]) ∧ Ext w w') ∧
    ∀ w, Calls Try.prog 26 #[.int .i64 m] w fun e w' => e = .returned (.tuple #[.string last, .bool true]) ∧ Ext w w'
  step : ∀ (i : Nat) (x y : ByteArray), cs[i]? = some x → cs[i + 1]? = some y → ∃ bs : List ByteArray, bs.length ≤ 1000 ∧ y ∈ bs ∧ ∀ w, Calls Try.prog 38 #[.string x] w (GivesLS w bs true)
theorem nearS_small {T : Tr} (h : T.carets ≤ 8) : (nearS T).length ≤ 1000 := by rw [nearS_length]; omega
theorem rotN_of (u : ByteArray) : ∃ ns ps cs c b last, RotN u ns ps cs c b last := by
  by_cases hT : ∃ T, u = tx T ∧ T.carets ≤ 8
  · obtain ⟨T, rfl, h1⟩ := hT
    have hcl : T.chain.length ≤ 1000 := by have := chain_length T; have : T.carets * T.carets ≤ 8 * 8 := Nat.mul_le_mul h1 h1; omega
    refine ⟨nearS T, (T.turns false).map S, T.chain.map tx, T.carets - 1, true, tx (comb T.carets), implNear_yes T h1, specNear_yes T h1, implPlaces_yes T h1, specPlaces_yes T h1, implCountRotations_yes T h1, specCountRotations_yes T h1, implChain_yes T h1, specChain_yes T h1,
      ⟨nearS_small h1, by rw [List.length_map]; have := turns_length false T; omega, by rw [List.length_map]; exact hcl⟩, fun _ => nearS_length T, ?_, fun i a b ha hb => nearS_lt T i a b ha hb, ?_, fun _ => ?_, ?_⟩
    · intro i x hx
      obtain ⟨U, hU, rfl⟩ := nearS_mem.1 (List.mem_of_getElem? hx)
      have hc := near0_carets hU
      exact ⟨nearS U, nearS_small (by omega), nearS_mem.2 ⟨T, near_symm hU, rfl⟩, implNear_yes U (by omega)⟩
    · intro i x hx
      obtain ⟨a, ha, rfl⟩ := List.mem_map.1 (List.mem_of_getElem? hx)
      obtain ⟨U, hU⟩ := Option.isSome_iff_exists.1 (List.mem_filter.1 ha).2
      refine ⟨tx U, nearS_mem.2 ⟨U, mem_near.2 ⟨_, a, hU⟩, rfl⟩, fun w => ?_⟩
      have := implRotateAt_yes T h1 (S a) w
      rw [turnedR_place h1 hU] at this
      exact this.mono fun e w' h => h.some
    · have h0 := chain_head T
      have hl := chain_last T
      have hp : 0 < T.chain.length := (List.getElem?_eq_some_iff.1 h0).1
      refine ⟨by rw [List.length_map]; exact hp, by rw [List.getElem?_map, h0]; rfl, ?_, T.carets, CaretsOf_yes T h1, RightComb_yes T.carets h1⟩
      rw [List.length_map, List.getElem?_map, ← List.getLast?_eq_getElem?, hl]; rfl
    · intro i x y hx hy
      rw [List.getElem?_map] at hx hy
      obtain ⟨A, hA, rfl⟩ := Option.map_eq_some_iff.1 hx
      obtain ⟨B, hB, rfl⟩ := Option.map_eq_some_iff.1 hy
      have hc := chain_carets (List.mem_of_getElem? hA)
      exact ⟨nearS A, nearS_small (by omega), nearS_mem.2 ⟨B, chain_near T i A B hA hB, rfl⟩, implNear_yes A (by omega)⟩
  · exact ⟨[], [], [], 0, false, ⟨#[]⟩, implNear_no u hT, specNear_no u hT, implPlaces_no u hT, specPlaces_no u hT, implCountRotations_no u hT, specCountRotations_no u hT, implChain_no u hT, specChain_no u hT,
      ⟨by simp, by simp, by simp⟩, (fun h => by cases h), (fun i x h => by simp at h), (fun i a b h => by simp at h), (fun i x h => by simp at h), (fun h => by cases h), (fun i x y h => by simp at h)⟩
end Go.Proofs.Ytpmmajfdcicjiaa.N
