import Derived.Test.YtpmmajfdcicjiaaBa
import Derived.Test.YtpmmajfdcicjiaaPu
import Derived.Test.YtpmmajfdcicjiaaSl
import Derived.Test.YtpmmajfdcicjiaaProg
import Derived.Test.YtpmmajfdcicjiaaTs
import Derived.Test.YtpmmajfdcicjiaaPp
import Derived.Test.YtpmmajfdcicjiaaPx
import Derived.Test.YtpmmajfdcicjiaaPg
import Derived.Test.YtpmmajfdcicjiaaWl
import Derived.Test.YtpmmajfdcicjiaaTp
import Derived.Test.YtpmmajfdcicjiaaTr
import Derived.Test.YtpmmajfdcicjiaaTu
import Derived.Test.YtpmmajfdcicjiaaSx
import Derived.Test.YtpmmajfdcicjiaaSy
import Derived.Test.YtpmmajfdcicjiaaSz
import Derived.Deep.LoopGhost
import Derived.Deep.QuietTactic
import Derived.BigQuiet
/- Combs, grafts and generators, as the reference has them. -/
namespace Go.Proofs.Ytpmmajfdcicjiaa.N
open Go.RowKit
set_option linter.unusedVariables false
set_option linter.unusedSimpArgs false

set_option maxHeartbeats 1600000 in
theorem trRight_calls (n : Nat) (hn : n < 100000) (w : World) :
    Calls Try.prog 134 #[.int .i64 n] w fun e w' => e = .returned (.string (tx (comb n))) ∧ w = w' := by
  go_enter Try.func134, Try.ntmps134
  go_wp2_with fail
  go_loop [0, 3] (fun i t => ∃ k : Nat, k ≤ n ∧ i = .int .i64 ((n - k : Nat) : Int) ∧ t = .string (tx (comb k))) (fun i _ => (intOf i).toNat)
  case atStart => exact ⟨0, Nat.zero_le _, rfl, rfl⟩
  case round =>
    obtain ⟨k, hk, rfl, rfl⟩ := hrel
    by_cases hlt : k < n
    · have h1 : (0 : Int) < ((n - k : Nat) : Int) := by omega
      have h2 : ((n - k : Nat) : Int) < 100000 := by omega
      have E : Hid (((n - k : Nat) : Int) - 1 = ((n - (k + 1) : Nat) : Int)) := by show _ = _; omega
      have C := Lib.hid (trOf_tree .leaf (comb k) (by simp [Tr.carets]) (by rw [comb_carets]; omega) w)
      rw [tx_leaf] at C
      generalize ((n - k : Nat) : Int) = d at *
      go_wp2_with fail
      refine C.out.mono ?_
      rintro e w1 ⟨rfl, rfl⟩
      go_wp2_with fail
      exact ⟨⟨k + 1, by omega, by rw [E.out], rfl⟩, by simp [intOf]; omega⟩
    · obtain rfl : k = n := by omega
      have h1 : ((k - k : Nat) : Int) = 0 := by omega
      rw [h1]
      go_wp2_with fail
      go_ret
      exact ⟨rfl, rfl⟩

set_option maxHeartbeats 3200000 in
set_option maxRecDepth 100000 in
theorem trGraft_calls (a b : List UInt8) (o : ByteArray) (hl : a.length + b.length < 1000000) (ho : o.size < 1000000) (w : World) :
    Calls Try.prog 133 #[.string (S (a ++ 46 :: b)), .int .i64 (dots a), .string o] w fun e w' => e = .returned (.string ((S a ++ o) ++ S b)) ∧ ∃ n, w' = w.drewN n := by
  have LN : Hid ((a ++ 46 :: b).length = a.length + b.length + 1) := by simp [Hid]; omega
  have E1 : Hid ((a ++ 46 :: b).take a.length = a) := by simp [Hid]
  have E2 : Hid ((a ++ 46 :: b).drop (a.length + 1) = b) := by
    show _ = _
    rw [List.drop_append, List.drop_eq_nil_of_le (by omega), show a.length + 1 - a.length = 1 from by omega]; rfl
  have G1 : Hid (∀ j, j < a.length → dots ((a ++ 46 :: b).take (j + 1)) ≤ dots a) := by
    intro j hj
    rw [List.take_append_of_le_length (by omega)]
    exact List.Sublist.countP_le (List.take_sublist _ _)
  have G3 : Hid ((a ++ 46 :: b)[a.length]? = some 46) := by simp [Hid]
  have DK := dots_le a
  generalize (a ++ 46 :: b) = l at *
  have D1 : Hid (dots (l.take a.length) = dots a) := by show _ = _; rw [E1.out]
  generalize hk : dots a = k at *
  go_enter Try.func133, Try.ntmps133
  go_wp2_with fail
  go_loop [7, 8] (fun n i => ∃ (j : Nat), j ≤ a.length ∧ i = .int .i64 j ∧ n = .int .i64 ((dots (l.take j) : Int) - 1)) (fun _ i => a.length + 2 - (intOf i).toNat)
  case atStart => exact ⟨0, Nat.zero_le _, rfl, rfl⟩
  case round =>
    obtain ⟨j, hj, rfl, rfl⟩ := hrel
    have b1 := dots_le (l.take j)
    have b2 : (l.take j).length ≤ j := List.length_take_le _ _
    have b3 : (0 : Int) ≤ dots (l.take j) ∧ (dots (l.take j) : Int) ≤ j := by omega
    clear b1 b2
    have hlt : j < l.length := by rw [LN.out]; omega
    obtain ⟨c, hc⟩ : ∃ c, l[j]? = some c := ⟨_, List.getElem?_eq_getElem hlt⟩
    have ST : dots (l.take (j + 1)) = dots (l.take j) + if c = 46 then 1 else 0 := by
      rw [List.take_add_one, hc]; exact dots_snoc _ _
    obtain ⟨x1, x2⟩ := s_at (S l) j c (by rw [S_toList]; exact hc)
    have h1 : (j : Int) < (S l).size := by show (j : Int) < (l.length : Nat); omega
    have h0 : (0 : Int) ≤ j := by omega
    by_cases hl2 : j = a.length
    · obtain rfl : c = 46 := by rw [hl2, G3.out] at hc; exact (Option.some.inj hc).symm
      have DD : dots (l.take j) = k := by rw [hl2]; exact D1.out
      rw [DD]
      have t1 : (((46 : UInt8).toNat : Int) == 46) = true := rfl
      have SZ : Hid ((S l).size = a.length + b.length + 1) := LN.out
      have F1 : (S l).extract 0 j = S a := by rw [S_extract, hl2, E1.out]; rfl
      have F2 : (S l).extract (j + 1) (S l).size = S b := by
        rw [S_extract, S_size, List.take_of_length_le (Nat.le_refl _), hl2, E2.out]
      have g1 : (j : Int) + 1 ≤ (S l).size := by rw [SZ.out]; omega
      have g2 : (j : Int) < 1000001 := by omega
      have g3 : (k : Int) - 1 + 1 = k := by omega
      have g4 : (9223372036854775807 < (S a).size + o.size) = False := by rw [S_size]; simp; omega
      have g5 : (9223372036854775807 < (S a).size + o.size + (S b).size) = False := by rw [S_size, S_size]; simp; omega
      have g6 : (k : Int) < 1000001 ∧ (0 : Int) ≤ k := by omega
      clear ST hc hl2 DD b3
      go_wp2_with fail
      go_region
      go_wp2_with fail
      go_ret
      exact ⟨rfl, 1, rfl⟩
    · have G := G1.out j (by omega)
      by_cases c1 : c = 46
      · have t1 : ((c.toNat : Int) == 46) = true := by subst c1; rfl
        rw [if_pos c1] at ST
        have t3 : (dots (l.take j) : Int) - 1 + 1 = dots (l.take j) := by omega
        have t2 : (((dots (l.take j) : Nat) : Int) == (k : Int)) = false := by rw [beq_eq_false_iff_ne]; omega
        have ST := Lib.hid ST
        clear c1 hc G
        go_wp2_with fail
        exact ⟨⟨j + 1, by omega, by go_num, by rw [ST.out]; go_num⟩, by simp [intOf]; omega⟩
      · have t1 : ((c.toNat : Int) == 46) = false := byte_ne c1
        rw [if_neg c1] at ST
        have t2 : (((dots (l.take j) : Nat) : Int) - 1 == (k : Int)) = false := by rw [beq_eq_false_iff_ne]; omega
        have ST := Lib.hid ST
        clear c1 hc G
        go_wp2_with fail
        exact ⟨⟨j + 1, by omega, by go_num, by rw [ST.out]; go_num⟩, by simp [intOf]; omega⟩
theorem trGraft_tree (T O : Tr) (n : Nat) (hT : T.carets < 1000) (hO : O.carets < 1000) (hn : n < T.carets + 1) (w : World) :
    Calls Try.prog 133 #[.string (tx T), .int .i64 n, .string (tx O)] w fun e w' => e = .returned (.string (tx (graft T n O))) ∧ ∃ m, w' = w.drewN m := by
  obtain ⟨a, b, e1, e2, e3⟩ := graft_txt O n T 0 (Nat.zero_le _) (by omega)
  have hl := T.txt_length
  have ho := O.txt_length
  rw [e1] at hl
  simp at hl
  have e4 : n = dots a := by omega
  have e5 : (S a ++ tx O) ++ S b = tx (graft T n O) := by
    show (S a ++ S O.txt) ++ S b = S ((T.grown _ 0).txt)
    rw [e2, S_append, S_append, List.append_assoc]
  rw [← e5, e4, show tx T = S (a ++ 46 :: b) by rw [tx, e1]]
  exact trGraft_calls a b (tx O) (by omega) (by show O.txt.length < _; omega) w

set_option maxHeartbeats 1600000 in
set_option maxRecDepth 100000 in
theorem prGenerator_calls (i : Nat) (hi : i < 900) (w : World) :
    Calls Try.prog 157 #[.int .i64 i] w fun e w' => e = .returned (.agg #[.string (tx (gen i).1), .string (tx (gen i).2)]) ∧ Ext w w' := by
  have X0 := Lib.hid ((Ext.refl w).alloc (.cells #[.string ⟨#[]⟩, .string ⟨#[]⟩] 25))
  have t0 := Two.new w (.string ⟨#[]⟩) (.string ⟨#[]⟩) 25 rfl
  have C1 := Lib.hid (fun W => trRight_calls i (by omega) W)
  have C3 := Lib.hid (fun W => trRight_calls (i + 2) (by omega) W)
  have C2 := Lib.hid (fun W => trGraft_tree (comb i) (.node (.node .leaf .leaf) .leaf) i (by rw [comb_carets]; omega) (by simp [Tr.carets]) (by rw [comb_carets]; omega) W)
  rw [show tx (.node (.node .leaf .leaf) .leaf) = ⟨#[40, 40, 46, 46, 41, 46, 41]⟩ from rfl] at C2
  have hi' : (i : Int) < 1000 ∧ (0 : Int) ≤ i := by omega
  have W2 : Hid ((i : Int) + 2 = ((i + 2 : Nat) : Int)) := by show _ = _; omega
  rw [show gen i = (graft (comb i) i (.node (.node .leaf .leaf) .leaf), comb (i + 2)) from rfl]
  generalize tx (comb i) = s1 at *
  generalize tx (graft (comb i) i (.node (.node .leaf .leaf) .leaf)) = s2 at *
  generalize tx (comb (i + 2)) = s3 at *
  go_enter Try.func157, Try.ntmps157
  go_wp2_with fail
  generalize w.alloc (.cells #[.string ⟨#[]⟩, .string ⟨#[]⟩] 25) = W at *
  refine (C1.out _).mono ?_
  rintro e w1 ⟨rfl, rfl⟩
  go_wp2_with fail
  refine (C2.out _).mono ?_
  rintro e w2 ⟨rfl, n2, rfl⟩
  go_wp2_with fail
  rw [W2.out]
  refine (C3.out _).mono ?_
  rintro e w3 ⟨rfl, rfl⟩
  have x3 := (Ext.refl W).drewN n2
  obtain ⟨u, v, k0, k1, f0, f1⟩ := (t0.ext x3).facts
  go_wp2_with fail
  have HH := set2_heap (t0.ext x3) (.string s2) (.string s3)
  have XX := (X0.out.trans x3).set2 (g := w.heap.size) (Nat.le_refl _) (.string s2) (.string s3)
  change bodyPost _ _ _ _ _ (N.set2 _ w.heap.size (.string s2) (.string s3))
  obtain ⟨hc0, hc1⟩ := cells_of HH
  generalize N.set2 _ w.heap.size (.string s2) (.string s3) = W3 at *
  exact bodyPost_ret (v := .agg #[.string s2, .string s3]) (by simp [results, Try.results157, go_sem, hc0, hc1]) rfl ⟨rfl, XX⟩
end Go.Proofs.Ytpmmajfdcicjiaa.N
