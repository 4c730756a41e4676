import Derived.Test.YtpmmajfdcicjiaaGreatG1RFnHalvesAndShifts
import Derived.Test.YtpmmajfdcicjiaaGreatG2RFnHalvesAndShifts
import Derived.Test.YtpmmajfdcicjiaaGreatProg
import Derived.Test.YtpmmajfdcicjiaaGreatG3RFnHalvesAndShifts
import Derived.Test.YtpmmajfdcicjiaaGreatG4RFnHalvesAndShifts
import Derived.Test.YtpmmajfdcicjiaaGreatG5RFnHalvesAndShifts
import Derived.Test.YtpmmajfdcicjiaaGreatG7RFnHalvesAndShifts
import Derived.Test.YtpmmajfdcicjiaaGreatG6RFnHalvesAndShifts
import Derived.Test.YtpmmajfdcicjiaaGreatG8RFnHalvesAndShifts
import Derived.Deep.LoopGhost
import Derived.Deep.QuietTactic
import Derived.BigQuiet
import Derived.Deep.RegionHeld3
/- Combs, grafts and generators, as the reference has them. -/
namespace Go.Proofs.YtpmmajfdcicjiaaGreat.N
open Go.RowKit
set_option linter.unusedVariables false
set_option linter.unusedSimpArgs false

set_option maxHeartbeats 1600000 in
theorem trRight_calls (n : Nat) (hn : n < 100000) (w : World) :
    Calls Tryz.prog 133 #[.int .i64 n] w fun e w' => e = .returned (.string (tx (comb n))) ∧ w = w' := by
  go_enter Tryz.func133, Tryz.ntmps133
  go_wp2_with fail
  go_loop [0, 3] (fun i t => ∃ k : Nat, k ≤ n ∧ i = .int .i64 ((n - k : Nat) : Int) ∧ t = .string (tx (comb k))) (fun i _ => (intOf i).toNat)
  case atStart => exact ⟨0, Nat.zero_le _, rfl, rfl⟩
  case round =>
    obtain ⟨k, hk, rfl, rfl⟩ := hrel
    by_cases hlt : k < n
    · have h1 : (0 : Int) < ((n - k : Nat) : Int) := by omega
      have h2 : ((n - k : Nat) : Int) < 100000 := by omega
      have E : Hid (((n - k : Nat) : Int) - 1 = ((n - (k + 1) : Nat) : Int)) := by show _ = _; omega
      have C := Lib.hid (trOf_tree .leaf (comb k) (by simp [Tr.carets]) (by rw [comb_carets]; omega) w)
      rw [tx_leaf] at C
      generalize ((n - k : Nat) : Int) = d at *
      go_wp2_with fail
      refine C.out.mono ?_
      rintro e w1 ⟨rfl, rfl⟩
      go_wp2_with fail
      exact ⟨⟨k + 1, by omega, by rw [E.out], rfl⟩, by simp [intOf]; omega⟩
    · obtain rfl : k = n := by omega
      have h1 : ((k - k : Nat) : Int) = 0 := by omega
      rw [h1]
      go_wp2_with fail
      go_ret
      exact ⟨rfl, rfl⟩

set_option maxHeartbeats 3200000 in
set_option maxRecDepth 100000 in
theorem trGraft_calls (a b : List UInt8) (o : ByteArray) (hl : a.length + b.length < 1000000) (ho : o.size < 1000000) (w : World) :
    Calls Tryz.prog 132 #[.string (S (a ++ 46 :: b)), .int .i64 (dots a), .string o] w fun e w' => e = .returned (.string ((S a ++ o) ++ S b)) ∧ ∃ n, w' = w.drewN n := by
  have LN : Hid ((a ++ 46 :: b).length = a.length + b.length + 1) := by simp [Hid]; omega
  have E1 : Hid ((a ++ 46 :: b).take a.length = a) := by simp [Hid]
  have E2 : Hid ((a ++ 46 :: b).drop (a.length + 1) = b) := by
    show _ = _
    rw [List.drop_append, List.drop_eq_nil_of_le (by omega), show a.length + 1 - a.length = 1 from by omega]; rfl
  have G1 : Hid (∀ j, j < a.length → dots ((a ++ 46 :: b).take (j + 1)) ≤ dots a) := by
    intro j hj
    rw [List.take_append_of_le_length (by omega)]
    exact List.Sublist.countP_le (List.take_sublist _ _)
  have G3 : Hid ((a ++ 46 :: b)[a.length]? = some 46) := by simp [Hid]
  have DK := dots_le a
  generalize (a ++ 46 :: b) = l at *
  have D1 : Hid (dots (l.take a.length) = dots a) := by show _ = _; rw [E1.out]
  generalize hk : dots a = k at *
  go_enter Tryz.func132, Tryz.ntmps132
  go_wp2_with fail
  go_loop [7, 8] (fun n i => ∃ (j : Nat), j ≤ a.length ∧ i = .int .i64 j ∧ n = .int .i64 ((dots (l.take j) : Int) - 1)) (fun _ i => a.length + 2 - (intOf i).toNat)
  case atStart => exact ⟨0, Nat.zero_le _, rfl, rfl⟩
  case round =>
    obtain ⟨j, hj, rfl, rfl⟩ := hrel
    have b1 := dots_le (l.take j)
    have b2 : (l.take j).length ≤ j := List.length_take_le _ _
    have b3 : (0 : Int) ≤ dots (l.take j) ∧ (dots (l.take j) : Int) ≤ j := by omega
    clear b1 b2
    have hlt : j < l.length := by rw [LN.out]; omega
    obtain ⟨c, hc⟩ : ∃ c, l[j]? = some c := ⟨_, List.getElem?_eq_getElem hlt⟩
    have ST : dots (l.take (j + 1)) = dots (l.take j) + if c = 46 then 1 else 0 := by
      rw [List.take_add_one, hc]; exact dots_snoc _ _
    obtain ⟨x1, x2⟩ := s_at (S l) j c (by rw [S_toList]; exact hc)
    have h1 : (j : Int) < (S l).size := by show (j : Int) < (l.length : Nat); omega
    have h0 : (0 : Int) ≤ j := by omega
    by_cases hl2 : j = a.length
    · obtain rfl : c = 46 := by rw [hl2, G3.out] at hc; exact (Option.some.inj hc).symm
      have DD : dots (l.take j) = k := by rw [hl2]; exact D1.out
      rw [DD]
      have t1 : (((46 : UInt8).toNat : Int) == 46) = true := rfl
      have SZ : Hid ((S l).size = a.length + b.length + 1) := LN.out
      have F1 : (S l).extract 0 j = S a := by rw [S_extract, hl2, E1.out]; rfl
      have F2 : (S l).extract (j + 1) (S l).size = S b := by
        rw [S_extract, S_size, List.take_of_length_le (Nat.le_refl _), hl2, E2.out]
      have g1 : (j : Int) + 1 ≤ (S l).size := by rw [SZ.out]; omega
      have g2 : (j : Int) < 1000001 := by omega
      have g3 : (k : Int) - 1 + 1 = k := by omega
      have g4 : (9223372036854775807 < (S a).size + o.size) = False := by rw [S_size]; simp; omega
      have g5 : (9223372036854775807 < (S a).size + o.size + (S b).size) = False := by rw [S_size, S_size]; simp; omega
      have g6 : (k : Int) < 1000001 ∧ (0 : Int) ≤ k := by omega
      clear ST hc hl2 DD b3
      go_wp2_with fail
      go_region
      go_wp2_with fail
      go_ret
      exact ⟨rfl, 1, rfl⟩
    · have G := G1.out j (by omega)
      by_cases c1 : c = 46
      · have t1 : ((c.toNat : Int) == 46) = true := by subst c1; rfl
        rw [if_pos c1] at ST
        have t3 : (dots (l.take j) : Int) - 1 + 1 = dots (l.take j) := by omega
        have t2 : (((dots (l.take j) : Nat) : Int) == (k : Int)) = false := by rw [beq_eq_false_iff_ne]; omega
        have ST := Lib.hid ST
        clear c1 hc G
        go_wp2_with fail
        exact ⟨⟨j + 1, by omega, by go_num, by rw [ST.out]; go_num⟩, by simp [intOf]; omega⟩
      · have t1 : ((c.toNat : Int) == 46) = false := byte_ne c1
        rw [if_neg c1] at ST
        have t2 : (((dots (l.take j) : Nat) : Int) - 1 == (k : Int)) = false := by rw [beq_eq_false_iff_ne]; omega
        have ST := Lib.hid ST
        clear c1 hc G
        go_wp2_with fail
        exact ⟨⟨j + 1, by omega, by go_num, by rw [ST.out]; go_num⟩, by simp [intOf]; omega⟩
theorem trGraft_tree (T O : Tr) (n : Nat) (hT : T.carets < 1000) (hO : O.carets < 1000) (hn : n < T.carets + 1) (w : World) :
    Calls Tryz.prog 132 #[.string (tx T), .int .i64 n, .string (tx O)] w fun e w' => e = .returned (.string (tx (graft T n O))) ∧ ∃ m, w' = w.drewN m := by
  obtain ⟨a, b, e1, e2, e3⟩ := graft_txt O n T 0 (Nat.zero_le _) (by omega)
  have hl := T.txt_length
  have ho := O.txt_length
  rw [e1] at hl
  simp at hl
  have e4 : n = dots a := by omega
  have e5 : (S a ++ tx O) ++ S b = tx (graft T n O) := by
    show (S a ++ S O.txt) ++ S b = S ((T.grown _ 0).txt)
    rw [e2, S_append, S_append, List.append_assoc]
  rw [← e5, e4, show tx T = S (a ++ 46 :: b) by rw [tx, e1]]
  exact trGraft_calls a b (tx O) (by omega) (by show O.txt.length < _; omega) w

set_option maxHeartbeats 1600000 in
set_option maxRecDepth 100000 in
theorem prGenerator_calls (i : Nat) (hi : i < 900) (w : World) :
    Calls Tryz.prog 97 #[.int .i64 i] w fun e w' => e = .returned (.agg #[.string (tx (gen i).1), .string (tx (gen i).2)]) ∧ Ext w w' := by
  have X0 := Lib.hid ((Ext.refl w).alloc (.cells #[.string ⟨#[]⟩, .string ⟨#[]⟩] 25))
  have t0 := Two.new w (.string ⟨#[]⟩) (.string ⟨#[]⟩) 25 rfl
  have C1 := Lib.hid (fun W => trRight_calls i (by omega) W)
  have C3 := Lib.hid (fun W => trRight_calls (i + 2) (by omega) W)
  have C2 := Lib.hid (fun W => trGraft_tree (comb i) (.node (.node .leaf .leaf) .leaf) i (by rw [comb_carets]; omega) (by simp [Tr.carets]) (by rw [comb_carets]; omega) W)
  rw [show tx (.node (.node .leaf .leaf) .leaf) = ⟨#[40, 40, 46, 46, 41, 46, 41]⟩ from rfl] at C2
  have hi' : (i : Int) < 1000 ∧ (0 : Int) ≤ i := by omega
  have W2 : Hid ((i : Int) + 2 = ((i + 2 : Nat) : Int)) := by show _ = _; omega
  rw [show gen i = (graft (comb i) i (.node (.node .leaf .leaf) .leaf), comb (i + 2)) from rfl]
  generalize tx (comb i) = s1 at *
  generalize tx (graft (comb i) i (.node (.node .leaf .leaf) .leaf)) = s2 at *
  generalize tx (comb (i + 2)) = s3 at *
  go_enter Tryz.func97, Tryz.ntmps97
  go_wp2_with fail
  generalize w.alloc (.cells #[.string ⟨#[]⟩, .string ⟨#[]⟩] 25) = W at *
  refine (C1.out _).mono ?_
  rintro e w1 ⟨rfl, rfl⟩
  go_wp2_with fail
  refine (C2.out _).mono ?_
  rintro e w2 ⟨rfl, n2, rfl⟩
  go_wp2_with fail
  rw [W2.out]
  refine (C3.out _).mono ?_
  rintro e w3 ⟨rfl, rfl⟩
  have x3 := (Ext.refl W).drewN n2
  obtain ⟨u, v, k0, k1, f0, f1⟩ := (t0.ext x3).facts
  go_wp2_with fail
  have HH := set2_heap (t0.ext x3) (.string s2) (.string s3)
  have XX := (X0.out.trans x3).set2 (g := w.heap.size) (Nat.le_refl _) (.string s2) (.string s3)
  change bodyPost _ _ _ _ _ (N.set2 _ w.heap.size (.string s2) (.string s3))
  obtain ⟨hc0, hc1⟩ := cells_of HH
  generalize N.set2 _ w.heap.size (.string s2) (.string s3) = W3 at *
  exact bodyPost_ret (v := .agg #[.string s2, .string s3]) (by simp [results, Tryz.results97, go_sem, hc0, hc1]) rfl ⟨rfl, XX⟩
end Go.Proofs.YtpmmajfdcicjiaaGreat.N
/- Cursors: how the reference's draws read their bytes. Weak contracts: a number within its bounds, the cursor moved on, nothing else touched. -/
namespace Go.Proofs.YtpmmajfdcicjiaaGreat.N
open Go.RowKit
set_option linter.unusedVariables false
set_option linter.unusedSimpArgs false

/-- A cursor in block g, over bytes that lie in another block; it can be moved on m times. -/
def Cur (w : World) (g m : Nat) : Prop := ∃ (A : Option Addr) (n c a : Nat) (s : Int), w.heap[g]? = some (.cells #[.slice A n c, .int .i64 (a : Nat), .int .u64 s] 63) ∧ a + m ≤ 1000000000000 ∧ n ≤ 1048576 ∧
  (0 < n → ∃ ad, A = some ad ∧ ad.block < g ∧ ∀ j, j < n → ∃ b : Nat, b < 256 ∧ w.cell? (ad.add j) = some (.int .u8 (b : Nat)))
/-- Block g may be another one, the rest has only grown. -/
def Mv (g : Nat) (w w' : World) : Prop := w.grownBy w' (some g)
theorem Mv.refl (g : Nat) (w : World) : Mv g w w := ⟨rfl, rfl, rfl, Nat.le_refl _, fun _ _ _ => rfl⟩
theorem Mv.trans {g : Nat} {a b c : World} (h : Mv g a b) (k : Mv g b c) : Mv g a c := World.grownBy.trans h k
theorem Ext.mv {w w' : World} (h : Ext w w') (g : Nat) : Mv g w w' := h.grownBy _
theorem Mv.set (g i : Nat) (w : World) (u : Value) : Mv g w (w.setCell ⟨g, i, none⟩ u) := by
  refine ⟨rfl, rfl, rfl, ?_, ?_⟩
  · simp [World.setCell]
  · intro k hk hne
    have : k ≠ g := fun e => hne (by rw [e])
    exact heap_setCell_other _ _ _ _ this
theorem add_block (ad : Addr) (j : Nat) : (ad.add j).block = ad.block := by unfold Addr.add; split <;> rfl
theorem Cur.ext {w w' : World} {g m : Nat} (h : Cur w g m) (hx : Ext w w') : Cur w' g m := by
  obtain ⟨A, n, c, a, s, h1, h2, h3, h4⟩ := h
  refine ⟨A, n, c, a, s, hx.at h1, h2, h3, fun hp => ?_⟩
  obtain ⟨ad, e, hb, hc⟩ := h4 hp
  exact ⟨ad, e, hb, fun j hj => let ⟨b, b1, b2⟩ := hc j hj; ⟨b, b1, hx.cell b2⟩⟩
theorem Cur.less {w : World} {g m k : Nat} (h : Cur w g m) (hk : k ≤ m) : Cur w g k := by
  obtain ⟨A, n, c, a, s, h1, h2, h3, h4⟩ := h
  exact ⟨A, n, c, a, s, h1, by omega, h3, h4⟩
theorem Mv.ext {w0 w w' : World} {g : Nat} (h : Mv g w w') (hx : Ext w0 w) (hg : w0.heap.size ≤ g) : Ext w0 w' := hx.grown h (fun k hk => by injection hk with hk; omega)
theorem Own.mv {w w' : World} {base g m : Nat} {e : TypeId} {v : Value} {xs : List Value} (h : Own w base e v xs) (c : Cur w g m) (he : e ≠ 63) (mv : Mv g w w') : Own w' base e v xs := by
  refine h.far mv fun k hk hv => ?_
  injection hk with hk
  subst hk
  obtain ⟨cs, fr, e1⟩ := h.typed _ hv
  obtain ⟨A, n, c, a, s, h1, _⟩ := c
  rw [e1] at h1
  injection h1 with h1
  injection h1 with _ h2
  exact he h2
theorem Mv.at {w w' : World} {g k : Nat} {o : Obj} (h : Mv g w w') (hk : k ≠ g) (hc : w.heap[k]? = some o) : w'.heap[k]? = some o := (h.block k (Array.getElem?_eq_some_iff.1 hc).1 (fun e => hk (by injection e))).trans hc
theorem Mv.cell {w w' : World} {g : Nat} {p : Addr} {v : Value} (h : Mv g w w') (hk : p.block ≠ g) (hc : w.cell? p = some v) : w'.cell? p = some v :=
  (World.cell?_of_block (h.block p.block (World.block_lt_of_cell? w p hc) (fun e => hk (by injection e)))).trans hc
/-- A number below n, the cursor moved on. -/
def Picks (w : World) (g m n : Nat) (e : Ending) (w' : World) : Prop := ∃ k : Nat, e = .returned (.int .i64 (k : Nat)) ∧ k < n ∧ Cur w' g m ∧ Mv g w w'

def setC (w : World) (g : Nat) (a s : Value) : World := (w.setCell ⟨g, 1, none⟩ a).setCell ⟨g, 2, none⟩ s
theorem setC_heap {w : World} {g : Nat} {x y z : Value} {t : TypeId} (h : w.heap[g]? = some (.cells #[x, y, z] t)) (a s : Value) : (setC w g a s).heap[g]? = some (.cells #[x, a, s] t) := by
  have h1 := heap_setCell_same w g 1 #[x, y, z] t a h
  exact heap_setCell_same (w.setCell ⟨g, 1, none⟩ a) g 2 _ t s h1
theorem setC_mv (w : World) (g : Nat) (a s : Value) : Mv g w (setC w g a s) := (Mv.set g 1 w a).trans (Mv.set g 2 _ s)
theorem byteOf (x : Int) : ∃ k : Nat, k < 256 ∧ wrap64 (bits .and .u64 x 255) = (k : Int) := by
  have h : ((BitVec.ofInt 64 x) &&& (BitVec.ofInt 64 255)).toNat < 256 := by rw [BitVec.toNat_and]; exact Nat.lt_of_le_of_lt Nat.and_le_right (by decide)
  refine ⟨_, h, ?_⟩
  show wrap64 (IntKind.u64.wrap ((((BitVec.ofInt 64 x) &&& (BitVec.ofInt 64 255)).toNat : Nat) : Int)) = _
  generalize ((BitVec.ofInt 64 x) &&& (BitVec.ofInt 64 255)).toNat = k at *
  rw [IntKind.wrap_u64]
  unfold wrap64
  omega
set_option maxHeartbeats 3200000 in
set_option maxRecDepth 100000 in
theorem next_calls (g m : Nat) (w : World) (h : Cur w g (m + 1)) : Calls Tryz.prog 108 #[.pointer (some ⟨g, 0, none⟩)] w (Picks w g m 256) := by
  obtain ⟨A, n, c, a, s, h1, h2, h3, h4⟩ := h
  have c0 : w.cell? ⟨g, 0, none⟩ = some (.slice A n c) := by simp [World.cell?, h1]
  have c1 : w.cell? ⟨g, 1, none⟩ = some (.int .i64 (a : Nat)) := by simp [World.cell?, h1]
  have c2 : w.cell? ⟨g, 2, none⟩ = some (.int .u64 s) := by simp [World.cell?, h1]
  have f1 : w.frozen? ⟨g, 1, none⟩ = false := by simp [World.frozen?, h1]
  have f2 : w.frozen? ⟨g, 2, none⟩ = false := by simp [World.frozen?, h1]
  have KEY : Hid (∀ (W : World) (s' : Int), Mv g w W → W.heap[g]? = some (.cells #[.slice A n c, .int .i64 ((a + 1 : Nat) : Int), .int .u64 s'] 63) → Cur W g m) := fun W s' hm hh =>
    ⟨A, n, c, a + 1, s', hh, by omega, h3, fun hp => let ⟨ad, e, hb, hc⟩ := h4 hp; ⟨ad, e, hb, fun j hj => let ⟨b, b1, b2⟩ := hc j hj; ⟨b, b1, hm.cell (by rw [add_block]; exact Nat.ne_of_lt hb) b2⟩⟩⟩
  have H1 := Lib.hid h1
  have M0 := Lib.hid (Mv.refl g w)
  have wa : IntKind.i64.wrap ((a : Int) + 1) = (a : Int) + 1 := wrap_ok (by omega)
  by_cases hl : a < n
  · obtain ⟨ad, rfl, hb, hc⟩ := h4 (by omega)
    obtain ⟨b, hb1, hb2⟩ := hc a hl
    have l0 : (a : Int) < n := by omega
    have l1 : (0 : Int) ≤ a := by omega
    clear h4 hc h1
    go_enter Tryz.func108, Tryz.ntmps108
    go_wp2_with fail
    go_quiet (fail)
    revert nq
    intro n0
    go_wp2_with fail
    go_quiet (fail)
    go_wp2_with fail
    change Code.wp _ _ _ _ (N.setC _ g (.int .i64 _) (.int .u64 _))
    generalize IntKind.u64.wrap (IntKind.u64.wrap (IntKind.u64.wrap (s * 6364136223846793005) + (b : Int)) + 1442695040888963407) = s'
    have X0 : Ext w (w.drewN (n0 + nq)) := (Ext.refl w).drewN _
    have HH : Hid _ := Lib.hid (setC_heap (X0.at H1.out) (.int .i64 ((a : Int) + 1)) (.int .u64 s'))
    have MM := Lib.hid ((X0.mv g).trans (setC_mv _ g (.int .i64 ((a : Int) + 1)) (.int .u64 s')))
    clear X0 hb2 c0 c1 c2 f1 f2
    generalize setC (w.drewN (n0 + nq)) g (.int .i64 ((a : Int) + 1)) (.int .u64 s') = W at *
    have c0 : W.cell? ⟨g, 0, none⟩ = some (.slice (some ad) n c) := by simp [World.cell?, HH.out]
    have c1 : W.cell? ⟨g, 1, none⟩ = some (.int .i64 ((a : Int) + 1)) := by simp [World.cell?, HH.out]
    have K1 := Lib.hid (KEY.out W s' MM.out (by rw [HH.out]; push_cast; rfl))
    have l2 : (a : Int) + 1 ≤ n := by omega
    go_quiet (fail)
    go_wp2_with fail
    go_ret
    exact ⟨b, rfl, hb1, K1.out.ext ((Ext.refl W).drewN _), MM.out.trans (((Ext.refl W).drewN _).mv g)⟩
  · have l0 : (n : Int) ≤ a := by omega
    have l1 : (0 : Int) ≤ a := by omega
    clear h4 h1
    go_enter Tryz.func108, Tryz.ntmps108
    go_wp2_with fail
    go_quiet (fail)
    go_wp2_with fail
    change Code.wp _ _ _ _ (N.setC _ g (.int .i64 _) (.int .u64 _))
    generalize IntKind.u64.wrap (IntKind.u64.wrap (IntKind.u64.wrap (s * 6364136223846793005)) + 1442695040888963407) = s'
    have X0 : Ext w (w.drewN nq) := (Ext.refl w).drewN _
    have HH : Hid _ := Lib.hid (setC_heap (X0.at H1.out) (.int .i64 ((a : Int) + 1)) (.int .u64 s'))
    have MM := Lib.hid ((X0.mv g).trans (setC_mv _ g (.int .i64 ((a : Int) + 1)) (.int .u64 s')))
    clear X0 c0 c1 c2 f1 f2
    generalize setC (w.drewN nq) g (.int .i64 ((a : Int) + 1)) (.int .u64 s') = W at *
    have c0 : W.cell? ⟨g, 0, none⟩ = some (.slice A n c) := by simp [World.cell?, HH.out]
    have c1 : W.cell? ⟨g, 1, none⟩ = some (.int .i64 ((a : Int) + 1)) := by simp [World.cell?, HH.out]
    have c2 : W.cell? ⟨g, 2, none⟩ = some (.int .u64 s') := by simp [World.cell?, HH.out]
    have K1 := Lib.hid (KEY.out W s' MM.out (by rw [HH.out]; push_cast; rfl))
    have l2 : ¬ ((a : Int) + 1 ≤ n) := by omega
    go_quiet (fail)
    go_wp2_with fail
    obtain ⟨k, hk, ek⟩ := byteOf (s' / 1099511627776)
    rw [ek]
    go_ret
    exact ⟨k, rfl, hk, K1.out.ext ((Ext.refl W).drewN _), MM.out.trans (((Ext.refl W).drewN _).mv g)⟩

set_option maxHeartbeats 3200000 in
set_option maxRecDepth 100000 in
theorem pick_calls (g m n : Nat) (hn : n ≤ 1000000000) (w : World) (h : Cur w g (m + 2)) : Calls Tryz.prog 55 #[.pointer (some ⟨g, 0, none⟩), .int .i64 n] w (Picks w g m (max n 1)) := by
  by_cases h1 : n ≤ 1
  · have n1 : (n : Int) ≤ 1 := by omega
    have KK : Hid (0 < max n 1) := by show _ < _; omega
    have HC := Lib.hid (h.less (k := m) (by omega))
    clear h
    go_enter Tryz.func55, Tryz.ntmps55
    go_wp2_with fail
    go_ret
    exact ⟨0, rfl, KK.out, HC.out, Mv.refl _ _⟩
  have n1 : ¬ ((n : Int) ≤ 1) := by omega
  have n0 : ¬ ((n : Int) = 0) := by omega
  have n01 : ((n : Int) == 0) = false := by rw [beq_eq_false_iff_ne]; omega
  have C1 := Lib.hid (next_calls g (m + 1) w h)
  have C2 := Lib.hid (fun W (hh : Cur W g (m + 1)) => next_calls g m W hh)
  have EN : Hid (max n 1 = n) := by show _ = _; omega
  have MD : Hid (∀ k : Nat, k % n < n) := fun k => Nat.mod_lt _ (by omega)
  have TM : ∀ k : Nat, ((k : Int)).tmod (n : Int) = ((k % n : Nat) : Int) := fun k => by rw [Int.tmod_eq_emod_of_nonneg (by omega)]; rfl
  clear h
  go_enter Tryz.func55, Tryz.ntmps55
  go_wp2_with fail
  refine (C1.out).mono ?_
  rintro e w1 ⟨k, rfl, hk, hc, hm⟩
  have HC := Lib.hid hc
  have HM := Lib.hid hm
  clear hc hm
  have k0 : (0 : Int) ≤ k := by omega
  have k1 : (k : Int) < 256 := by omega
  by_cases h2 : 200 < n
  · have n2 : (200 : Int) < n := by omega
    go_wp2_with fail
    refine (C2.out w1 HC.out).mono ?_
    rintro e w2 ⟨k2, rfl, hk2, hc2, hm2⟩
    have HC := Lib.hid hc2
    have HM := Lib.hid (HM.out.trans hm2)
    clear hc2 hm2
    have k20 : (0 : Int) ≤ k2 := by omega
    have k21 : (k2 : Int) < 256 := by omega
    go_wp2_with fail
    go_ret
    exact ⟨(k * 256 + k2) % n, (by push_cast; rfl), by rw [EN.out]; exact MD.out _, HC.out, HM.out⟩
  · have n2 : ¬ ((200 : Int) < n) := by omega
    have HC := Lib.hid (HC.out.less (k := m) (by omega))
    go_wp2_with fail
    go_ret
    exact ⟨k % n, (by push_cast; rfl), by rw [EN.out]; exact MD.out _, HC.out, HM.out⟩

def GivesOne (w : World) (g m : Nat) (e : Ending) (w' : World) : Prop := ∃ b : Bool, e = .returned (.bool b) ∧ Cur w' g m ∧ Mv g w w'
set_option maxHeartbeats 3200000 in
theorem one_calls (g m n : Nat) (hn : n ≤ 1000000000) (w : World) (h : Cur w g (m + 2)) : Calls Tryz.prog 56 #[.pointer (some ⟨g, 0, none⟩), .int .i64 n] w (GivesOne w g m) := by
  have C1 := Lib.hid (pick_calls g m n hn w h)
  clear h
  go_enter Tryz.func56, Tryz.ntmps56
  go_wp2_with fail
  refine (C1.out).mono ?_
  rintro e w1 ⟨k, rfl, hk, hc, hm⟩
  have HC := Lib.hid hc
  have HM := Lib.hid hm
  clear hc hm
  go_wp2_with fail
  go_ret
  exact ⟨_, rfl, HC.out, HM.out⟩

theorem Reads.mv {w w' : World} {g : Nat} {v : Value} {xs : List Value} (h : Reads w v xs) (hm : Mv g w w') (hb : v.ownBlock ≠ some g) : Reads w' v xs := h.far hm (fun k hk => by injection hk with hk; subst hk; exact hb)
set_option maxHeartbeats 3200000 in
theorem among_calls (g m : Nat) (xs : List Int) (h0 : 0 < xs.length) (hl : xs.length ≤ 1000000) (v : Value) (w : World) (hv : Reads w v (ints xs)) (hb : v.ownBlock ≠ some g) (h : Cur w g (m + 2)) :
    Calls Tryz.prog 72 #[.pointer (some ⟨g, 0, none⟩), v] w fun e w' => ∃ x ∈ xs, e = .returned (.int .i64 x) ∧ Cur w' g m ∧ Mv g w w' := by
  have C1 := Lib.hid (pick_calls g m xs.length (by omega) w h)
  have RV := Lib.hid (fun W (hm : Mv g w W) => hv.mv hm hb)
  obtain ⟨A, c, rfl, _, _⟩ := hv
  rw [ints_length] at *
  have EN : Hid (max xs.length 1 = xs.length) := by show _ = _; omega
  clear h hb
  go_enter Tryz.func72, Tryz.ntmps72
  go_wp2_with fail
  refine (C1.out).mono ?_
  rintro e w1 ⟨k, rfl, hk, hc, hm⟩
  rw [EN.out] at hk
  obtain ⟨A1, c1, e1, _, rd⟩ := RV.out w1 hm
  rw [ints_length] at *
  injection e1 with e1 _ e3
  subst e1 e3
  obtain ⟨ad, rfl, ca⟩ := rd (by omega)
  have c2 := ca k _ (ints_get xs k hk)
  have k0 : (0 : Int) ≤ k := by omega
  have k1 : (k : Int) < xs.length := by omega
  have MX := Lib.hid (List.getElem_mem hk)
  have HC := Lib.hid hc
  have HM := Lib.hid hm
  generalize xs[k] = x at *
  clear hc hm ca rd hk
  go_wp2_with fail
  go_ret
  exact ⟨x, MX.out, rfl, HC.out, HM.out⟩

theorem convB (W : World) (n : Int) : (convert 22 9 (.slice (some ⟨W.heap.size, 0, none⟩) 1 1)).run Tryz.prog (W.alloc (.cells #[.int .u8 n] 5)) = .ok (.string (S [UInt8.ofNat n.toNat])) (W.alloc (.cells #[.int .u8 n] 5)) := by
  have h := run_convert_bytes_arg (P := Tryz.prog) (W.alloc (.cells #[.int .u8 n] 5)) 22 5 Tryz.underlying22 Tryz.underlying5 W.heap.size 0 1 1 [n] rfl (fun i hi => by
    obtain rfl : i = 0 := by simpa using hi
    go_simp) 9 Tryz.underlying9
  exact h
set_option maxHeartbeats 6400000 in
set_option maxRecDepth 100000 in
theorem spoilt_calls (g m : Nat) (s u : ByteArray) (hs : s.size ≤ 1000000) (hu0 : 0 < u.size) (hu : u.size ≤ 1000) (w : World) (h : Cur w g (m + 14)) :
    Calls Tryz.prog 96 #[.pointer (some ⟨g, 0, none⟩), .string s, .string u] w fun e w' => ∃ r : ByteArray, r.size ≤ s.size + 2 ∧ e = .returned (.string r) ∧ Cur w' g m ∧ Mv g w w' := by
  have C1 := Lib.hid (pick_calls g (m + 12) 2 (by omega) w h)
  have C2 := Lib.hid (fun k n (hn : n ≤ 1000000000) W (hh : Cur W g (k + 2)) => pick_calls g k n hn W hh)
  have u1 : (0 : Int) < u.size := by omega
  have u2 : (u.size : Int) ≤ 1000 := by omega
  clear h
  go_enter Tryz.func96, Tryz.ntmps96
  go_wp2_with fail
  refine (C1.out).mono ?_
  rintro e w1 ⟨k, rfl, hk, hc, hm⟩
  have HC := Lib.hid hc
  have HM := Lib.hid hm
  have k0 : (0 : Int) ≤ k := by omega
  have k2 : (k : Int) < 2 := by omega
  clear hc hm
  go_wp2_with fail
  go_loopw [1, 7] (fun t i wr => ∃ (j : Nat) (r : ByteArray), i = .int .i64 j ∧ t = .string r ∧ j ≤ 2 ∧ r.size + j ≤ s.size + 2 ∧ Hid (Cur wr g (m + 6 * j)) ∧ Hid (Mv g w wr)) (fun _ i _ => (intOf i).toNat)
  case atStart => exact ⟨k + 1, s, by go_num, rfl, by omega, by omega, HC.out.less (by omega), HM.out⟩
  case round =>
    obtain ⟨j, r, rfl, rfl, hj, hr, HC, HM⟩ := hrel
    have j0 : (0 : Int) ≤ j := by omega
    by_cases hgo : 0 < j ∧ 0 < r.size
    · obtain ⟨hj0, hr0⟩ := hgo
      have j1 : (0 : Int) < j := by omega
      have r1 : (0 : Int) < r.size := by omega
      have e1 : m + 6 * j = m + 6 * (j - 1) + 4 + 2 := by omega
      have P1 := Lib.hid (C2.out (m + 6 * (j - 1) + 4) r.size (by omega) wr (by rw [← e1]; exact HC.out))
      clear e1
      have EN : max r.size 1 = r.size := by omega
      have EU : max u.size 1 = u.size := by omega
      go_wp2_with fail
      refine (P1.out).mono ?_
      rintro e w2 ⟨i, rfl, hi, hc, hm⟩
      rw [EN] at hi
      have P2 := Lib.hid (C2.out (m + 6 * (j - 1) + 2) u.size (by omega) w2 hc)
      have HM := Lib.hid (HM.out.trans hm)
      have i0 : (0 : Int) ≤ i := by omega
      have i1 : (i : Int) < r.size := by omega
      clear hc hm
      go_wp2_with fail
      refine (P2.out).mono ?_
      rintro e w3 ⟨q, rfl, hq, hc, hm⟩
      rw [EU] at hq
      have HM := Lib.hid (HM.out.trans hm)
      have q0 : (0 : Int) ≤ q := by omega
      have q1 : (q : Int) < u.size := by omega
      have cv := fun n => convB w3 n
      have xa := fun n : Int => (Ext.refl w3).alloc (.cells #[.int .u8 n] 5)
      have P3 := Lib.hid (fun n : Int => C2.out (m + 6 * (j - 1)) 3 (by omega) _ (hc.ext (xa n)))
      have MA := Lib.hid (fun n : Int => HM.out.trans ((xa n).mv g))
      clear hc hm xa
      go_wp2_with fail
      refine (P3.out _).mono ?_
      rintro e w4 ⟨z, rfl, hz, hc, hm⟩
      have HM := Lib.hid ((MA.out _).trans hm)
      have HC := Lib.hid hc
      clear hc hm cv
      have hz3 : z < 3 := by omega
      have i2 : (i : Int) + 1 ≤ r.size := by omega
      have ij := i2
      generalize hdu : S [u[q]] = d at *
      have d1 : d.size = 1 := by rw [← hdu]; rfl
      have d1' : (d.size : Int) = 1 := by omega
      have ra : (r.extract 0 i).size = i := by rw [ByteArray.size_extract]; omega
      have rb : (r.extract i r.size).size = r.size - i := by rw [ByteArray.size_extract]; omega
      have rc : (r.extract (i + 1) r.size).size = r.size - (i + 1) := by rw [ByteArray.size_extract]; omega
      have HZ : Hid ((r.extract 0 i ++ d ++ r.extract i r.size).size ≤ r.size + 1 ∧ (r.extract 0 i ++ d ++ r.extract (i + 1) r.size).size ≤ r.size + 1 ∧ (r.extract 0 i ++ r.extract (i + 1) r.size).size ≤ r.size + 1) := by
        simp only [Hid, ByteArray.size_append]; omega
      clear hdu
      have hrm : (r.size : Int) ≤ 1000002 := by omega
      rcases (by omega : z = 0 ∨ z = 1 ∨ z = 2) with rfl | rfl | rfl
      · go_wp2_with fail
        go_quiet (fail)
        go_wp2_with fail
        exact ⟨⟨j - 1, _, by rw [show ((j - 1 : Nat) : Int) = (j : Int) - 1 from by omega], rfl, by omega, by have := HZ.out.1; omega, HC.out.ext ((Ext.refl _).drewN _), HM.out.trans (((Ext.refl _).drewN _).mv g)⟩, by simp [intOf]; omega⟩
      · go_wp2_with fail
        go_quiet (fail)
        go_wp2_with fail
        exact ⟨⟨j - 1, _, by rw [show ((j - 1 : Nat) : Int) = (j : Int) - 1 from by omega], rfl, by omega, by have := HZ.out.2.1; omega, HC.out.ext ((Ext.refl _).drewN _), HM.out.trans (((Ext.refl _).drewN _).mv g)⟩, by simp [intOf]; omega⟩
      · go_wp2_with fail
        go_quiet (fail)
        go_wp2_with fail
        exact ⟨⟨j - 1, _, by rw [show ((j - 1 : Nat) : Int) = (j : Int) - 1 from by omega], rfl, by omega, by have := HZ.out.2.2; omega, HC.out.ext ((Ext.refl _).drewN _), HM.out.trans (((Ext.refl _).drewN _).mv g)⟩, by simp [intOf]; omega⟩
    · have EX := Lib.hid (HC.out.less (k := m) (by omega))
      have RS : Hid (r.size ≤ s.size + 2) := by show _ ≤ _; omega
      by_cases hj0 : j = 0
      · subst hj0
        go_wp2_with fail
        go_ret
        exact ⟨r, RS.out, rfl, EX.out, HM.out⟩
      · have hr0 : r.size = 0 := by omega
        have hr0i : (r.size : Int) = 0 := by omega
        have j1 : (0 : Int) < j := by omega
        go_wp2_with fail
        go_ret
        exact ⟨r, RS.out, rfl, EX.out, HM.out⟩

theorem graft_here (T : Tr) (k : Nat) (h : k ≤ T.carets) : ∃ a b, T.txt = a ++ 46 :: b ∧ S (a ++ 46 :: b) = tx T ∧ dots a = k ∧ (S a ++ S [40, 46, 46, 41]) ++ S b = tx (T.grown (fun i => if i = k then .node .leaf .leaf else .leaf) 0) := by
  obtain ⟨a, b, h1, h2, h3⟩ := graft_txt (.node .leaf .leaf) k T 0 (Nat.zero_le _) (by omega)
  refine ⟨a, b, h1, by rw [← h1]; rfl, by omega, ?_⟩
  rw [S_append, S_append]
  show _ = S _
  rw [h2]
  simp [Tr.txt]
set_option maxHeartbeats 6400000 in
set_option maxRecDepth 100000 in
theorem sureTree_calls (g m n : Nat) (hn : n ≤ 1000) (w : World) (h : Cur w g (m + 2 * n)) :
    Calls Tryz.prog 107 #[.pointer (some ⟨g, 0, none⟩), .int .i64 n] w fun e w' => ∃ T : Tr, T.carets = n ∧ e = .returned (.string (tx T)) ∧ Cur w' g m ∧ Mv g w w' := by
  have C2 := Lib.hid (fun k n (hn : n ≤ 1000000000) W (hh : Cur W g (k + 2)) => pick_calls g k n hn W hh)
  have HC := Lib.hid h
  clear h
  go_enter Tryz.func107, Tryz.ntmps107
  go_wp2_with fail
  go_loopw [5, 6] (fun t i wr => ∃ (k : Nat) (T : Tr), i = .int .i64 k ∧ t = .string (tx T) ∧ k ≤ n ∧ Hid (T.carets = k) ∧ Hid (Cur wr g (m + 2 * (n - k))) ∧ Hid (Mv g w wr)) (fun _ i _ => n - (intOf i).toNat)
  case atStart => exact ⟨0, .leaf, rfl, rfl, Nat.zero_le _, rfl, HC.out, Mv.refl _ _⟩
  case round =>
    obtain ⟨k, T, rfl, rfl, hk, HT, HC, HM⟩ := hrel
    have k0 : (0 : Int) ≤ k := by omega
    by_cases hlt : k < n
    · have k1 : (k : Int) < n := by omega
      have e1 : m + 2 * (n - k) = m + 2 * (n - (k + 1)) + 2 := by omega
      have P1 := Lib.hid (C2.out (m + 2 * (n - (k + 1))) (k + 1) (by omega) wr (by rw [← e1]; exact HC.out))
      have ek : ((k + 1 : Nat) : Int) = (k : Int) + 1 := by omega
      rw [ek] at P1
      have EN : Hid (max (k + 1) 1 = k + 1) := by show _ = _; omega
      clear e1 ek
      generalize htx : tx T = s at *
      have HTX := Lib.hid htx
      clear htx
      go_wp2_with fail
      refine (P1.out).mono ?_
      rintro e w2 ⟨i, rfl, hi, hc, hm⟩
      rw [EN.out] at hi
      obtain ⟨a, b, _, h2, h3, h4⟩ := graft_here T i (by have := HT.out; omega)
      have LN : a.length + b.length < 1000000 := by
        have e2 := congrArg ByteArray.size h2
        rw [tx_size, S_size] at e2
        simp at e2
        have := HT.out
        omega
      have P2 := Lib.hid (trGraft_calls a b (S [40, 46, 46, 41]) LN (by rw [S_size]; decide) w2)
      rw [h2, h3, h4, HTX.out] at P2
      have HG : Hid ((T.grown (fun j => if j = i then .node .leaf .leaf else .leaf) 0).carets = k + 1) := by
        show _ = _
        rw [grown_one _ _ _ _ (Nat.zero_le _) (by have := HT.out; omega), HT.out]; rfl
      generalize T.grown (fun j => if j = i then .node .leaf .leaf else .leaf) 0 = T' at *
      have HM := Lib.hid (HM.out.trans hm)
      have HC := Lib.hid hc
      clear hc hm h2 h3 h4 LN
      go_wp2_with fail
      refine (P2.out).mono ?_
      rintro e w3 ⟨rfl, n3, rfl⟩
      have X3 : Ext w2 (w2.drewN n3) := (Ext.refl _).drewN _
      go_wp2_with fail
      exact ⟨⟨k + 1, T', by go_num, rfl, by omega, HG.out, HC.out.ext X3, HM.out.trans (X3.mv g)⟩, by simp [intOf]; omega⟩
    · obtain rfl : k = n := by omega
      have e1 : m + 2 * (k - k) = m := by omega
      have EX := Lib.hid (HC.out.less (k := m) (by omega))
      go_wp2_with fail
      go_ret
      exact ⟨T, HT.out, rfl, EX.out, HM.out⟩

/-- A text of at most so many bytes. -/
def DrawS (w : World) (g m b : Nat) (e : Ending) (w' : World) : Prop := ∃ s : ByteArray, s.size ≤ b ∧ e = .returned (.string s) ∧ Cur w' g m ∧ Mv g w w'
set_option maxHeartbeats 6400000 in
set_option maxRecDepth 100000 in
theorem tree_calls (g m n : Nat) (hn : n ≤ 100) (w : World) (h : Cur w g (m + (2 * n + 40))) :
    Calls Tryz.prog 95 #[.pointer (some ⟨g, 0, none⟩), .int .i64 n] w (DrawS w g m 400) := by
  have C2 := Lib.hid (fun k n (hn : n ≤ 1000000000) W (hh : Cur W g (k + 2)) => pick_calls g k n hn W hh)
  have C3 := Lib.hid (fun k n (hn : n ≤ 1000) W (hh : Cur W g (k + 2 * n)) => sureTree_calls g k n hn W hh)
  have C4 := Lib.hid (fun k s (hs : s.size ≤ 1000000) W (hh : Cur W g (k + 14)) => spoilt_calls g k s (S [40, 46, 41]) hs (by rw [S_size]; decide) (by rw [S_size]; decide) W hh)
  have P1 := Lib.hid (C2.out (m + (2 * n + 38)) (n + 1) (by omega) w (by rw [show m + (2 * n + 38) + 2 = m + (2 * n + 40) from by omega]; exact h))
  rw [show ((n + 1 : Nat) : Int) = (n : Int) + 1 from by omega] at P1
  have hn1 : (n : Int) ≤ 100 := by omega
  have hn0 : (0 : Int) ≤ n := by omega
  have EN : Hid (max (n + 1) 1 = n + 1) := by show _ = _; omega
  clear h
  go_enter Tryz.func95, Tryz.ntmps95
  go_wp2_with fail
  refine (P1.out).mono ?_
  rintro e w1 ⟨i, rfl, hi, hc, hm⟩
  rw [EN.out] at hi
  have P2 := Lib.hid (C3.out (m + 38) i (by omega) w1 (hc.less (by omega)))
  have HM := Lib.hid hm
  have i1 : (i : Int) ≤ 100 := by omega
  clear hc hm
  go_wp2_with fail
  refine (P2.out).mono ?_
  rintro e w2 ⟨T, hT, rfl, hc, hm⟩
  have P3 := Lib.hid (C2.out (m + 36) 14 (by omega) w2 hc)
  have HM := Lib.hid (HM.out.trans hm)
  have HS : Hid ((tx T).size ≤ 301) := by show _ ≤ _; rw [tx_size]; omega
  generalize tx T = s at *
  clear hc hm hT
  go_wp2_with fail
  refine (P3.out).mono ?_
  rintro e w3 ⟨z, rfl, hz, hc, hm⟩
  have HM := Lib.hid (HM.out.trans hm)
  have HC := Lib.hid hc
  clear hc hm
  by_cases z0 : z = 0
  · subst z0
    have P4 := Lib.hid (C4.out m s (by have := HS.out; omega) w3 (HC.out.less (by omega)))
    go_wp2_with fail
    refine (P4.out).mono ?_
    rintro e w4 ⟨r, hr, rfl, hc, hm⟩
    have HM := Lib.hid (HM.out.trans hm)
    have HC := Lib.hid hc
    have HR := Lib.hid hr
    clear hc hm hr
    go_wp2_with fail
    go_ret
    exact ⟨r, by have := HR.out; have := HS.out; omega, rfl, HC.out, HM.out⟩
  have b0 : ((z : Int) == 0) = false := by rw [beq_eq_false_iff_ne]; omega
  by_cases z1 : z = 1
  · subst z1
    have P4 := Lib.hid (C2.out (m + 34) 2 (by omega) w3 HC.out)
    go_wp2_with fail
    refine (P4.out).mono ?_
    rintro e w4 ⟨q, rfl, hq, hc, hm⟩
    have hq2 : q < 2 := by omega
    have P5 := Lib.hid (C3.out m (8 + q) (by omega) w4 (hc.less (by omega)))
    rw [show ((8 + q : Nat) : Int) = 8 + (q : Int) from by omega] at P5
    have HM := Lib.hid (HM.out.trans hm)
    have q0 : (0 : Int) ≤ q := by omega
    have q1 : (q : Int) < 2 := by omega
    clear hc hm
    go_wp2_with fail
    refine (P5.out).mono ?_
    rintro e w5 ⟨T2, hT, rfl, hc, hm⟩
    have HM := Lib.hid (HM.out.trans hm)
    have HC := Lib.hid hc
    have HS2 : Hid ((tx T2).size ≤ 400) := by show _ ≤ _; rw [tx_size]; omega
    generalize tx T2 = s2 at *
    clear hc hm hT
    go_wp2_with fail
    go_ret
    exact ⟨s2, HS2.out, rfl, HC.out, HM.out⟩
  have b1 : ((z : Int) == 1) = false := by rw [beq_eq_false_iff_ne]; omega
  have HC := Lib.hid (HC.out.less (k := m) (by omega))
  go_wp2_with fail
  go_ret
  exact ⟨s, by have := HS.out; omega, rfl, HC.out, HM.out⟩

/-- Two trees with so many carets. -/
def GivesTP (w : World) (g m n : Nat) (e : Ending) (w' : World) : Prop := ∃ A B : Tr, A.carets = n ∧ B.carets = n ∧ e = .returned (.agg #[.string (tx A), .string (tx B)]) ∧ Cur w' g m ∧ Mv g w w'
theorem Cur.lt {w : World} {g m : Nat} (h : Cur w g m) : g < w.heap.size := by obtain ⟨A, n, c, a, s, h1, _⟩ := h; exact (Array.getElem?_eq_some_iff.1 h1).1
theorem Two.mv {w w' : World} {b g : Nat} {t : TypeId} (h : Two w b t) (hm : Mv g w w') (hb : b ≠ g) : Two w' b t := ⟨let ⟨u, v, e⟩ := h.at_; ⟨u, v, hm.at hb e⟩⟩
theorem Mv.ofExt0 {g : Nat} {w0 w w' : World} (h : Ext w0 w) (k : Mv g w w') : Mv g w0 w' := (h.mv g).trans k
/-- Cells of a new block are set. -/
theorem Mv.set2 {w0 w : World} {g b : Nat} (h : Mv g w0 w) (hb : w0.heap.size ≤ b) (u v : Value) : Mv g w0 (N.set2 w b u v) :=
  ⟨h.os, h.tape, h.output, by simpa [N.set2, World.setCell] using h.size, fun k hk hne => (set2_other (by omega) u v).trans (h.block k hk hne)⟩
theorem Cur.set2 {w : World} {g m b : Nat} (h : Cur w g m) (hb : g < b) (u v : Value) : Cur (N.set2 w b u v) g m := by
  obtain ⟨A, n, c, a, s, h1, h2, h3, h4⟩ := h
  refine ⟨A, n, c, a, s, (set2_other (Nat.ne_of_lt hb) u v).trans h1, h2, h3, fun hp => ?_⟩
  obtain ⟨ad, e, hb2, hc⟩ := h4 hp
  refine ⟨ad, e, hb2, fun j hj => ?_⟩
  obtain ⟨x, hx, hx2⟩ := hc j hj
  exact ⟨x, hx, set2_far (by rw [add_block]; omega) u v hx2⟩
set_option maxHeartbeats 6400000 in
set_option maxRecDepth 100000 in
theorem surePair_calls (g m n : Nat) (hn : n ≤ 1000) (w : World) (h : Cur w g (m + 4 * n)) :
    Calls Tryz.prog 54 #[.pointer (some ⟨g, 0, none⟩), .int .i64 n] w (GivesTP w g m n) := by
  have C3 := Lib.hid (fun k W (hh : Cur W g (k + 2 * n)) => sureTree_calls g k n hn W hh)
  have x0 := (Ext.refl w).alloc (.cells #[.string ⟨#[]⟩, .string ⟨#[]⟩] 25)
  have P1 := Lib.hid (C3.out (m + 2 * n) _ ((h.less (k := m + 2 * n + 2 * n) (by omega)).ext x0))
  have T0 := Lib.hid (Two.new w (.string ⟨#[]⟩) (.string ⟨#[]⟩) 25 rfl)
  have M0 := Lib.hid (x0.mv g)
  have GL := Lib.hid h.lt
  clear h x0
  go_enter Tryz.func54, Tryz.ntmps54
  go_wp2_with fail
  generalize w.alloc (.cells #[.string ⟨#[]⟩, .string ⟨#[]⟩] 25) = W at *
  refine (P1.out).mono ?_
  rintro e w1 ⟨A, hA, rfl, hc, hm⟩
  have P2 := Lib.hid (C3.out m _ hc)
  have M0 := Lib.hid (M0.out.trans hm)
  have T0 := Lib.hid (T0.out.mv hm (by have := GL.out; omega))
  have HA := Lib.hid hA
  clear hc hm hA
  go_wp2_with fail
  refine (P2.out).mono ?_
  rintro e w2 ⟨B, hB, rfl, hc, hm⟩
  have M0 := Lib.hid (M0.out.trans hm)
  have T0 := T0.out.mv hm (by have := GL.out; omega)
  have HB := Lib.hid hB
  have HC := Lib.hid (hc.set2 GL.out (.string (tx A)) (.string (tx B)))
  have M2 := Lib.hid (M0.out.set2 (Nat.le_refl _) (.string (tx A)) (.string (tx B)))
  obtain ⟨hc0, hc1⟩ := cells_of (set2_heap T0 (.string (tx A)) (.string (tx B)))
  obtain ⟨x, y, k0, k1, f0, f1⟩ := T0.facts
  clear hc hm hB T0
  go_wp2_with fail
  change bodyPost _ _ _ _ _ (N.set2 w2 w.heap.size (.string (tx A)) (.string (tx B)))
  exact bodyPost_ret (v := .agg #[.string (tx A), .string (tx B)]) (by simp [results, Tryz.results54, go_sem, hc0, hc1]) rfl ⟨A, B, HA.out, HB.out, rfl, HC.out, M2.out⟩

/-- A pair of texts of at most so many bytes. -/
def GivesSP (w : World) (g m b : Nat) (e : Ending) (w' : World) : Prop := ∃ s t : ByteArray, s.size ≤ b ∧ t.size ≤ b ∧ e = .returned (.agg #[.string s, .string t]) ∧ Cur w' g m ∧ Mv g w w'
theorem Mv.set1 {w0 w : World} {g b i : Nat} (h : Mv g w0 w) (hb : w0.heap.size ≤ b) (u : Value) : Mv g w0 (w.setCell ⟨b, i, none⟩ u) :=
  ⟨h.os, h.tape, h.output, by simpa [World.setCell] using h.size, fun k hk hne => (heap_setCell_other w ⟨b, i, none⟩ k u (by simp only; omega)).trans (h.block k hk hne)⟩
theorem Cur.set1 {w : World} {g m b i : Nat} (h : Cur w g m) (hb : g < b) (u : Value) : Cur (w.setCell ⟨b, i, none⟩ u) g m := by
  obtain ⟨A, n, c, a, s, h1, h2, h3, h4⟩ := h
  refine ⟨A, n, c, a, s, (heap_setCell_other w ⟨b, i, none⟩ g u (by simp only; omega)).trans h1, h2, h3, fun hp => ?_⟩
  obtain ⟨ad, e, hb2, hc⟩ := h4 hp
  refine ⟨ad, e, hb2, fun j hj => ?_⟩
  obtain ⟨x, hx, hx2⟩ := hc j hj
  exact ⟨x, hx, (World.cell?_of_block (heap_setCell_other w ⟨b, i, none⟩ _ u (by rw [add_block]; simp only; omega))).trans hx2⟩
theorem Mv.at2 {w w' : World} {g k : Nat} {o : Obj} (h : Mv g w w') (hk : g < k) (hc : w.heap[k]? = some o) : w'.heap[k]? = some o := h.at (by omega) hc
theorem frozen_of {w : World} {b : Nat} {u v : Value} {t : TypeId} (h : w.heap[b]? = some (.cells #[u, v] t)) : w.frozen? ⟨b, 0, none⟩ = false ∧ w.frozen? ⟨b, 1, none⟩ = false := by
  constructor <;> simp [World.frozen?, h]
/-- What the end of 'pair' needs. -/
structure PairEnd (w : World) (g m r q : Nat) (s t : ByteArray) (W : World) : Prop where
  rs : W.heap[r]? = some (.cells #[.string ⟨#[]⟩, .string ⟨#[]⟩] 25)
  qs : W.heap[q]? = some (.cells #[.string s, .string t] 25)
  cur : Cur W g m
  mv : Mv g w W
theorem PairEnd.moved {w : World} {g m m' r q : Nat} {s t : ByteArray} {W W' : World} (h : PairEnd w g m r q s t W) (hr : g < r) (hq : g < q) (hc : Cur W' g m') (hm : Mv g W W') : PairEnd w g m' r q s t W' :=
  ⟨hm.at2 hr h.rs, hm.at2 hq h.qs, hc, h.mv.trans hm⟩
theorem PairEnd.facts {w : World} {g m r q : Nat} {s t : ByteArray} {W : World} (h : PairEnd w g m r q s t W) : W.cell? ⟨q, 0, none⟩ = some (.string s) ∧ W.cell? ⟨q, 1, none⟩ = some (.string t) ∧ W.frozen? ⟨q, 0, none⟩ = false ∧ W.frozen? ⟨q, 1, none⟩ = false :=
  ⟨(cells_of h.qs).1, (cells_of h.qs).2, (frozen_of h.qs).1, (frozen_of h.qs).2⟩
theorem PairEnd.put0 {w : World} {g m r q : Nat} {s t : ByteArray} {W : World} (h : PairEnd w g m r q s t W) (hq : g < q) (hw : w.heap.size ≤ q) (hr : r ≠ q) (u : ByteArray) : PairEnd w g m r q u t (W.setCell ⟨q, 0, none⟩ (.string u)) :=
  ⟨(heap_setCell_other W ⟨q, 0, none⟩ r _ hr).trans h.rs, heap_setCell_same W q 0 #[.string s, .string t] _ (.string u) h.qs, h.cur.set1 hq _, h.mv.set1 hw _⟩
theorem PairEnd.put1 {w : World} {g m r q : Nat} {s t : ByteArray} {W : World} (h : PairEnd w g m r q s t W) (hq : g < q) (hw : w.heap.size ≤ q) (hr : r ≠ q) (u : ByteArray) : PairEnd w g m r q s u (W.setCell ⟨q, 1, none⟩ (.string u)) :=
  ⟨(heap_setCell_other W ⟨q, 1, none⟩ r _ hr).trans h.rs, heap_setCell_same W q 1 #[.string s, .string t] _ (.string u) h.qs, h.cur.set1 hq _, h.mv.set1 hw _⟩
set_option maxHeartbeats 12800000 in
set_option maxRecDepth 100000 in
theorem pair_calls (g m n : Nat) (hn : n ≤ 100) (w : World) (h : Cur w g (m + 1000)) :
    Calls Tryz.prog 40 #[.pointer (some ⟨g, 0, none⟩), .int .i64 n] w (GivesSP w g m 400) := by
  have C2 := Lib.hid (fun k n (hn : n ≤ 1000000000) W (hh : Cur W g (k + 2)) => pick_calls g k n hn W hh)
  have C3 := Lib.hid (fun k n (hn : n ≤ 1000) W (hh : Cur W g (k + 4 * n)) => surePair_calls g k n hn W hh)
  have C4 := Lib.hid (fun k s (hs : s.size ≤ 1000000) W (hh : Cur W g (k + 14)) => spoilt_calls g k s (S [40, 46, 41]) hs (by rw [S_size]; decide) (by rw [S_size]; decide) W hh)
  have C5 := Lib.hid (fun k W (hh : Cur W g (k + (2 * n + 40))) => tree_calls g k n hn W hh)
  have x0 := (Ext.refl w).alloc (.cells #[.string ⟨#[]⟩, .string ⟨#[]⟩] 25)
  have P1 := Lib.hid (C2.out (m + 998) (n + 1) (by omega) _ (h.ext x0))
  rw [show ((n + 1 : Nat) : Int) = (n : Int) + 1 from by omega] at P1
  have R0 := Lib.hid (heap_alloc_new w (.cells #[.string ⟨#[]⟩, .string ⟨#[]⟩] 25))
  have M0 := Lib.hid (x0.mv g)
  have GL := Lib.hid h.lt
  have hn1 : (n : Int) ≤ 100 := by omega
  have hn0 : (0 : Int) ≤ n := by omega
  have EN : Hid (max (n + 1) 1 = n + 1) := by show _ = _; omega
  clear h x0
  go_enter Tryz.func40, Tryz.ntmps40
  go_wp2_with fail
  generalize w.alloc (.cells #[.string ⟨#[]⟩, .string ⟨#[]⟩] 25) = W at *
  refine (P1.out).mono ?_
  rintro e w1 ⟨i, rfl, hi, hc, hm⟩
  rw [EN.out] at hi
  have P2 := Lib.hid (C3.out (m + 590) i (by omega) w1 (hc.less (by omega)))
  have M0 := Lib.hid (M0.out.trans hm)
  have R0 := Lib.hid (hm.at2 GL.out R0.out)
  have i1 : (i : Int) ≤ 100 := by omega
  clear hc hm
  go_wp2_with fail
  refine (P2.out).mono ?_
  rintro e w2 ⟨A, B, hA, hB, rfl, hc, hm⟩
  have xq := (Ext.refl w2).alloc (.cells #[.string (tx A), .string (tx B)] 25)
  have Q0 := heap_alloc_new w2 (.cells #[.string (tx A), .string (tx B)] 25)
  have GQ := Lib.hid hc.lt
  have PE := Lib.hid (PairEnd.mk (w := w) (g := g) (m := m + 590) (xq.at (hm.at2 GL.out R0.out)) Q0 (hc.ext xq) ((M0.out.trans hm).trans (xq.mv g)))
  have GW : Hid (w.heap.size ≤ w2.heap.size ∧ w.heap.size ≠ w2.heap.size) := ⟨(M0.out.trans hm).size, fun e => by have := (Array.getElem?_eq_some_iff.1 (hm.at2 GL.out R0.out)).1; omega⟩
  have HSA3 : Hid ((tx A).size ≤ 301) := by show _ ≤ _; rw [tx_size]; omega
  have HSA : Hid ((tx A).size ≤ 400) := by show _ ≤ _; rw [tx_size]; omega
  have HSB : Hid ((tx B).size ≤ 400) := by show _ ≤ _; rw [tx_size]; omega
  generalize tx A = a at *
  generalize tx B = b at *
  clear hc hm hA hB xq Q0 R0 M0
  go_wp2_with fail
  generalize w2.alloc (.cells #[.string a, .string b] 25) = W2 at *
  have P3 := Lib.hid (C2.out (m + 588) 14 (by omega) W2 PE.out.cur)
  refine (P3.out).mono ?_
  rintro e w3 ⟨z, rfl, hz, hc, hm⟩
  have PE := Lib.hid (PE.out.moved GL.out GQ.out hc hm)
  clear hc hm P1 P2 P3
  -- the end
  have FIN : Hid (∀ (s t : ByteArray) (W : World), s.size ≤ 400 → t.size ≤ 400 → PairEnd w g m w.heap.size w2.heap.size s t W →
      GivesSP w g m 400 (.returned (.agg #[.string s, .string t])) (N.set2 W w.heap.size (.string s) (.string t)) ∧ (N.set2 W w.heap.size (.string s) (.string t)).cell? ⟨w.heap.size, 0, none⟩ = some (.string s) ∧ (N.set2 W w.heap.size (.string s) (.string t)).cell? ⟨w.heap.size, 1, none⟩ = some (.string t) ∧
      W.cell? ⟨w.heap.size, 0, none⟩ = some (.string ⟨#[]⟩) ∧ W.cell? ⟨w.heap.size, 1, none⟩ = some (.string ⟨#[]⟩) ∧ W.frozen? ⟨w.heap.size, 0, none⟩ = false ∧ W.frozen? ⟨w.heap.size, 1, none⟩ = false ∧ W.cell? ⟨w2.heap.size, 0, none⟩ = some (.string s) ∧ W.cell? ⟨w2.heap.size, 1, none⟩ = some (.string t)) := fun s t W hs ht pe => by
    obtain ⟨a0, a1⟩ := cells_of (set2_heap (g := w.heap.size) ⟨_, _, pe.rs⟩ (.string s) (.string t))
    obtain ⟨b0, b1⟩ := cells_of pe.rs
    obtain ⟨d0, d1⟩ := cells_of pe.qs
    obtain ⟨f0, f1⟩ := frozen_of pe.rs
    exact ⟨⟨s, t, hs, ht, rfl, pe.cur.set2 GL.out _ _, pe.mv.set2 (Nat.le_refl _) _ _⟩, a0, a1, b0, b1, f0, f1, d0, d1⟩
  rcases (by omega : z = 0 ∨ z = 1 ∨ z = 2 ∨ z = 3 ∨ (z ≠ 0 ∧ z ≠ 1 ∧ z ≠ 2 ∧ z ≠ 3)) with rfl | rfl | rfl | rfl | ⟨z0, z1, z2, z3⟩
  · have P4 := Lib.hid (C5.out m w3 (PE.out.cur.less (by omega)))
    go_wp2_with fail
    refine (P4.out).mono ?_
    rintro e w4 ⟨u, hu, rfl, hc, hm⟩
    have PE := Lib.hid (PE.out.moved GL.out GQ.out hc hm)
    obtain ⟨k0, k1, l0, l1⟩ := PE.out.facts
    have PE := Lib.hid (PE.out.put1 GQ.out GW.out.1 GW.out.2 u)
    have HU := Lib.hid hu
    clear hc hm hu
    obtain ⟨F, a0, a1, c0, c1, f0, f1, d0, d1⟩ := FIN.out a u _ HSA.out HU.out PE.out
    have F := Lib.hid F
    go_wp2_with fail
    change bodyPost _ _ _ _ _ (N.set2 (w4.setCell ⟨w2.heap.size, 1, none⟩ (.string u)) w.heap.size (.string a) (.string u))
    exact bodyPost_ret (v := .agg #[.string a, .string u]) (by simp [results, Tryz.results40, go_sem, a0, a1]) rfl F.out
  · obtain ⟨k0, k1, l0, l1⟩ := PE.out.facts
    have b0 : ((1 : Nat) : Int) = 1 := rfl
    have P4 := Lib.hid (C4.out m a (by have := HSA.out; omega) w3 (PE.out.cur.less (by omega)))
    have HSA2 : Hid (a.size ≤ 301) := HSA3
    go_wp2_with fail
    refine (P4.out).mono ?_
    rintro e w4 ⟨u, hu, rfl, hc, hm⟩
    have PE := Lib.hid (PE.out.moved GL.out GQ.out hc hm)
    clear k0 k1 l0 l1
    obtain ⟨k0, k1, l0, l1⟩ := PE.out.facts
    have PE := Lib.hid (PE.out.put0 GQ.out GW.out.1 GW.out.2 u)
    have HU : Hid (u.size ≤ 400) := by show _ ≤ _; have := HSA2.out; omega
    clear hc hm hu
    obtain ⟨F, a0, a1, c0, c1, f0, f1, d0, d1⟩ := FIN.out u b _ HU.out HSB.out PE.out
    have F := Lib.hid F
    go_wp2_with fail
    change bodyPost _ _ _ _ _ (N.set2 (w4.setCell ⟨w2.heap.size, 0, none⟩ (.string u)) w.heap.size (.string u) (.string b))
    exact bodyPost_ret (v := .agg #[.string u, .string b]) (by simp [results, Tryz.results40, go_sem, a0, a1]) rfl F.out
  · have P4 := Lib.hid (C2.out (m + 100) 2 (by omega) w3 (PE.out.cur.less (by omega)))
    go_wp2_with fail
    refine (P4.out).mono ?_
    rintro e w4 ⟨q, rfl, hq, hc, hm⟩
    have hq2 : q < 2 := by omega
    have PE := Lib.hid (PE.out.moved GL.out GQ.out hc hm)
    have P5 := Lib.hid (C3.out m (8 + q) (by omega) w4 (hc.less (by omega)))
    rw [show ((8 + q : Nat) : Int) = 8 + (q : Int) from by omega] at P5
    have q0 : (0 : Int) ≤ q := by omega
    have q1 : (q : Int) < 2 := by omega
    clear hc hm
    go_wp2_with fail
    refine (P5.out).mono ?_
    rintro e w5 ⟨A2, B2, hA2, hB2, rfl, hc, hm⟩
    have PE := Lib.hid (PE.out.moved GL.out GQ.out hc hm)
    obtain ⟨k0, k1, l0, l1⟩ := PE.out.facts
    have PE := Lib.hid ((PE.out.put0 GQ.out GW.out.1 GW.out.2 (tx A2)).put1 GQ.out GW.out.1 GW.out.2 (tx B2))
    have HU : Hid ((tx A2).size ≤ 400) := by show _ ≤ _; rw [tx_size]; omega
    have HV : Hid ((tx B2).size ≤ 400) := by show _ ≤ _; rw [tx_size]; omega
    generalize tx A2 = u at *
    generalize tx B2 = v at *
    clear hc hm hA2 hB2
    obtain ⟨F, a0, a1, c0, c1, f0, f1, d0, d1⟩ := FIN.out u v _ HU.out HV.out PE.out
    have F := Lib.hid F
    go_wp2_with fail
    change bodyPost _ _ _ _ _ (N.set2 ((w5.setCell ⟨w2.heap.size, 0, none⟩ (.string u)).setCell ⟨w2.heap.size, 1, none⟩ (.string v)) w.heap.size (.string u) (.string v))
    exact bodyPost_ret (v := .agg #[.string u, .string v]) (by simp [results, Tryz.results40, go_sem, a0, a1]) rfl F.out
  · have P4 := Lib.hid (C2.out m 4 (by omega) w3 (PE.out.cur.less (by omega)))
    go_wp2_with fail
    refine (P4.out).mono ?_
    rintro e w4 ⟨q, rfl, hq, hc, hm⟩
    have hq2 : q < 4 := by omega
    have PE := Lib.hid (PE.out.moved GL.out GQ.out hc hm)
    have P5 := Lib.hid (prGenerator_calls q (by omega) w4)
    have HCu := Lib.hid hc
    have HU : Hid ((tx (gen q).1).size ≤ 400) := by show _ ≤ _; rw [tx_size, (gen_carets q).1]; omega
    have HV : Hid ((tx (gen q).2).size ≤ 400) := by show _ ≤ _; rw [tx_size, (gen_carets q).2]; omega
    generalize tx (gen q).1 = u at *
    generalize tx (gen q).2 = v at *
    clear hc hm
    go_wp2_with fail
    refine (P5.out).mono ?_
    rintro e w5 ⟨rfl, x5⟩
    have PE := Lib.hid (PE.out.moved GL.out GQ.out (HCu.out.ext x5) (x5.mv g))
    obtain ⟨k0, k1, l0, l1⟩ := PE.out.facts
    have PE := Lib.hid ((PE.out.put0 GQ.out GW.out.1 GW.out.2 u).put1 GQ.out GW.out.1 GW.out.2 v)
    clear x5
    obtain ⟨F, a0, a1, c0, c1, f0, f1, d0, d1⟩ := FIN.out u v _ HU.out HV.out PE.out
    have F := Lib.hid F
    go_wp2_with fail
    change bodyPost _ _ _ _ _ (N.set2 ((w5.setCell ⟨w2.heap.size, 0, none⟩ (.string u)).setCell ⟨w2.heap.size, 1, none⟩ (.string v)) w.heap.size (.string u) (.string v))
    exact bodyPost_ret (v := .agg #[.string u, .string v]) (by simp [results, Tryz.results40, go_sem, a0, a1]) rfl F.out
  · have b0 : ((z : Int) == 0) = false := by rw [beq_eq_false_iff_ne]; omega
    have b1 : ((z : Int) == 1) = false := by rw [beq_eq_false_iff_ne]; omega
    have b2 : ((z : Int) == 2) = false := by rw [beq_eq_false_iff_ne]; omega
    have b3 : ((z : Int) == 3) = false := by rw [beq_eq_false_iff_ne]; omega
    obtain ⟨F, a0, a1, c0, c1, f0, f1, d0, d1⟩ := FIN.out a b w3 HSA.out HSB.out ⟨PE.out.rs, PE.out.qs, PE.out.cur.less (by omega), PE.out.mv⟩
    have F := Lib.hid F
    go_wp2_with fail
    change bodyPost _ _ _ _ _ (N.set2 w3 w.heap.size (.string a) (.string b))
    exact bodyPost_ret (v := .agg #[.string a, .string b]) (by simp [results, Tryz.results40, go_sem, a0, a1]) rfl F.out
end Go.Proofs.YtpmmajfdcicjiaaGreat.N
