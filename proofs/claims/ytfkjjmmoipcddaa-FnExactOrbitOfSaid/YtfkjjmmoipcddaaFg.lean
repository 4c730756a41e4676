import Derived.Test.YtfkjjmmoipcddaaBa
import Derived.Test.YtfkjjmmoipcddaaPu
import Derived.Test.YtfkjjmmoipcddaaSl
import Derived.Test.YtfkjjmmoipcddaaProg
import Derived.Test.YtfkjjmmoipcddaaTs
import Derived.Test.YtfkjjmmoipcddaaPh
import Derived.Test.YtfkjjmmoipcddaaWl
import Derived.Test.YtfkjjmmoipcddaaT3
import Derived.Test.YtfkjjmmoipcddaaTp
import Derived.Test.YtfkjjmmoipcddaaTr
import Derived.Test.YtfkjjmmoipcddaaTu
import Derived.Test.YtfkjjmmoipcddaaTk
import Derived.Test.YtfkjjmmoipcddaaFa
import Derived.Test.YtfkjjmmoipcddaaFb
import Derived.Test.YtfkjjmmoipcddaaFc
import Derived.Test.YtfkjjmmoipcddaaPf
import Derived.Test.YtfkjjmmoipcddaaFd
import Derived.Test.YtfkjjmmoipcddaaFf
import Derived.Deep.LoopGhost
import Derived.Deep.RegionHeld3
import Derived.Deep.QuietTactic
import Derived.BigQuiet
import Derived.BigRegion
/- Fractions: where leaves begin, the reference's. -/
namespace Go.Proofs.Ytfkjjmmoipcddaa.N
open Go.RowKit
set_option linter.unusedVariables false
set_option linter.unusedSimpArgs false

theorem infoFr : (Try.prog.info? 61).map (fun i => (i.zero, i.size, i.bytes)) = some (some (.agg #[.int .i64 0, .int .i64 0]), 2, 16) := by kernel_rfl
/-- The cells of fractions. -/
def frs (l : List (Nat × Nat)) : List Value := l.flatMap fun x => [.int .i64 (x.1 : Nat), .int .i64 (x.2 : Nat)]
theorem frs_length : ∀ l : List (Nat × Nat), (frs l).length = l.length * 2
  | [] => rfl
  | x :: l => by
    have := frs_length l
    unfold frs at this ⊢
    rw [List.flatMap_cons, List.length_append, this]; simp; omega
theorem frs_append (l m : List (Nat × Nat)) : frs (l ++ m) = frs l ++ frs m := by simp [frs]
theorem frs_get : ∀ (l : List (Nat × Nat)) (k : Nat) (x : Nat × Nat), l[k]? = some x → (frs l)[k * 2]? = some (.int .i64 (x.1 : Nat)) ∧ (frs l)[k * 2 + 1]? = some (.int .i64 (x.2 : Nat))
  | [], _, _, h => by simp at h
  | y :: l, 0, x, h => by
    simp only [List.getElem?_cons_zero, Option.some.injEq] at h
    subst h
    exact ⟨rfl, rfl⟩
  | y :: l, k + 1, x, h => by
    have := frs_get l k x (by simpa using h)
    unfold frs at this ⊢
    rw [List.flatMap_cons, List.getElem?_append_right (by simp; omega), List.getElem?_append_right (by simp; omega)]
    simp only [List.length_cons, List.length_nil]
    rw [show (k + 1) * 2 - (0 + 1 + 1) = k * 2 by omega, show (k + 1) * 2 + 1 - (0 + 1 + 1) = k * 2 + 1 by omega]
    exact this
theorem frs_one (l : List (Nat × Nat)) : ∀ u ∈ frs l, u.oneCell' = true := by
  intro u hu
  unfold frs at hu
  obtain ⟨x, _, h⟩ := List.mem_flatMap.1 hu
  simp at h
  rcases h with rfl | rfl <;> rfl
def stF (a : List UInt8) : Nat × Nat := (sN a, sD a)
set_option maxHeartbeats 3200000 in
set_option maxRecDepth 100000 in
theorem mpStarts_calls (T : Tr) (hd : T.depth ≤ 40) (hT : T.carets ≤ 1000) (w : World) :
    Calls Try.prog 176 #[.string (tx T)] w fun e w' => ∃ v, e = .returned v ∧ w'.ownsRow w.heap.size 61 2 v (T.carets + 1) (frs ((addrs T []).map stF)) ∧ Ext w w' := by
  have C1 := Lib.hid (fun W => trAddresses_calls T [] ⟨#[]⟩ W (by omega) hT (by simp; omega) rfl)
  have HB : Hid (∀ x ∈ addrs T [], Bits x) := fun x hx => addrs_bits T [] x (fun c h => by cases h) hx
  have HL : Hid (∀ x ∈ addrs T [], x.length ≤ 40) := fun x hx => by have := addrs_depth T [] x hx; simp at this; omega
  have LA := addrs_length T []
  rw [← LA]
  have L1 : (addrs T []).length ≤ 1001 := by omega
  generalize addrs T [] = l at *
  generalize tx T = t at *
  clear hd hT LA
  go_enter Try.func176, Try.ntmps176
  go_wp2_with fail
  refine (C1.out _).mono ?_
  rintro e w1 ⟨v1, rfl, o1, x1⟩
  obtain ⟨A1, q1, rfl, _, _⟩ := o1.reads
  rw [sls_length] at o1 ⊢
  have R1 := Lib.hid o1.reads
  have X1 := Lib.hid x1
  clear o1 x1
  go_wp2_with fail
  go_loopw [9, 3] (fun i o wr => ∃ k : Nat, k ≤ l.length ∧ i = .int .i64 k ∧ Hid (wr.ownsRow w1.heap.size 61 2 o k (frs ((l.take k).map stF))) ∧ Hid (Ext w1 wr)) (fun i _ _ => l.length - (intOf i).toNat)
  case atStart => exact ⟨0, Nat.zero_le _, rfl, World.ownsRow_nil _ _ _ _, Ext.refl _⟩
  case round =>
    obtain ⟨k, hk, rfl, HO, HX⟩ := hrel
    by_cases hlt : k < l.length
    · obtain ⟨Ax, cx, e1, _, rd⟩ := R1.out.ext HX.out
      rw [sls_length] at rd e1
      obtain ⟨ad, e2, ca⟩ := rd (by omega)
      injection e1 with e3 e4 e5
      subst e3 e5
      subst e2
      clear e4
      have c1 := ca k _ (sls_get l k hlt)
      have h0 : (0 : Int) ≤ k := by omega
      have h1 : (k : Int) < l.length := by omega
      have C2 := Lib.hid (fun W => mpOf_calls l[k] (HB.out _ (List.getElem_mem hlt)) (HL.out _ (List.getElem_mem hlt)) W)
      have TK : Hid (frs ((l.take (k + 1)).map stF) = frs ((l.take k).map stF) ++ [.int .i64 (sN l[k] : Nat), .int .i64 (sD l[k] : Nat)]) := by
        show _ = _
        rw [List.take_add_one, List.getElem?_eq_getElem hlt, List.map_append, frs_append]; rfl
      clear ca rd
      generalize sN l[k] = sn at *
      generalize sD l[k] = sd at *
      generalize l[k] = a at *
      go_wp2_with fail
      refine (C2.out _).mono ?_
      rintro e w2 ⟨rfl, x2⟩
      have O2 := row_ext (row_ext HO.out x2) ((Ext.refl w2).alloc (.cells #[.int .i64 (sn : Nat), .int .i64 (sd : Nat)] 61))
      have X2 := Lib.hid ((HX.out.trans x2).alloc (.cells #[.int .i64 (sn : Nat), .int .i64 (sd : Nat)] 61))
      have LO := Lib.hid (fun j hj => (O2.lt j hj).1)
      clear x2
      go_wp2_with (at_builtin; refine wpList_appK rfl (.tmp 13) (.tmp 16) 67 rfl w1.heap.size 61 _ 2 16 Try.underlying67 infoFr rfl (by omega) _ k 1 1 _ _ [.int .i64 (sn : Nat), .int .i64 (sd : Nat)] rfl rfl O2 rfl (new_cells w2 #[.int .i64 (sn : Nat), .int .i64 (sd : Nat)] _) (by simp [Value.oneCell']) (by unfold maxLen; omega) (by omega) X2.out.size ?_; intro v4 w4 o4 g4 _)
      have X4 := Lib.hid (X2.out.grown g4 LO.out)
      rw [← TK.out] at o4
      have O4 := Lib.hid o4
      clear o4 g4 O2
      go_wp2_with fail
      exact ⟨⟨k + 1, by omega, by go_num, O4.out, X4.out⟩, by simp [intOf]; omega⟩
    · have h1 : (l.length : Int) ≤ k := by omega
      obtain rfl : k = l.length := by omega
      have HO2 := HO.out
      rw [List.take_length] at HO2
      have HO2 := Lib.hid HO2
      go_wp2_with fail
      go_ret
      exact ⟨_, rfl, row_mono HO2.out X1.out.size, X1.out.trans HX.out⟩

set_option maxHeartbeats 1600000 in
theorem mpLess_calls (a b c d : Nat) (ha : a ≤ 1099511627776) (hb : b ≤ 1099511627776) (h1 : a * d ≤ 1125899906842624) (h2 : c * b ≤ 1125899906842624) (w : World) :
    Calls Try.prog 177 #[.agg #[.int .i64 a, .int .i64 b], .agg #[.int .i64 c, .int .i64 d]] w fun e w' => e = .returned (.bool (decide (a * d < c * b))) ∧ Ext w w' := by
  have X0 := Lib.hid (((Ext.refl w).alloc (.cells #[.int .i64 a, .int .i64 b] 61)).alloc (.cells #[.int .i64 c, .int .i64 d] 61))
  have p1 : (a : Int) * d = ((a * d : Nat) : Int) := (Int.natCast_mul a d).symm
  have p2 : (c : Int) * b = ((c * b : Nat) : Int) := (Int.natCast_mul c b).symm
  have q1 : ((a * d : Nat) : Int) ≤ 1125899906842624 := by omega
  have q2 : ((c * b : Nat) : Int) ≤ 1125899906842624 := by omega
  generalize a * d = x at *
  generalize c * b = y at *
  go_enter Try.func177, Try.ntmps177
  go_wp2_with fail
  go_ret
  exact ⟨rfl, X0.out⟩

set_option maxHeartbeats 1600000 in
theorem mpIf_calls (n d : Int) (w : World) :
    Calls Try.prog 100 #[.agg #[.int .i64 n, .int .i64 d]] w fun e w' => e = .returned (.tuple #[.agg #[.int .i64 (if goodB n d then n else 0), .int .i64 (if goodB n d then d else 0)], .bool (goodB n d)]) ∧ Ext w w' := by
  have X0 := Lib.hid (((Ext.refl w).alloc (.cells #[.int .i64 n, .int .i64 d] 61)).alloc (.cells #[.int .i64 0, .int .i64 0] 61))
  have C1 := Lib.hid (fun W => mpGood_calls n d W)
  have b0 : ((w.alloc (.cells #[.int .i64 n, .int .i64 d] 61)).alloc (.cells #[.int .i64 0, .int .i64 0] 61)).heap[w.heap.size]? = some (.cells #[.int .i64 n, .int .i64 d] 61) := ((Ext.refl _).alloc _).at (heap_alloc_new w _)
  have T0 : Hid (Two ((w.alloc (.cells #[.int .i64 n, .int .i64 d] 61)).alloc (.cells #[.int .i64 0, .int .i64 0] 61)) (w.heap.size + 1) 61) := Two.new _ _ _ _ (by simp)
  obtain ⟨c0, c1⟩ := cells_of b0
  have B0 := Lib.hid b0
  clear b0
  cases hg : goodB n d with
  | true =>
    rw [hg] at C1
    rw [if_pos rfl, if_pos rfl]
    clear hg
    go_enter Try.func100, Try.ntmps100
    go_wp2_with fail
    generalize (w.alloc (.cells #[.int .i64 n, .int .i64 d] 61)).alloc (.cells #[.int .i64 0, .int .i64 0] 61) = W at *
    refine (C1.out _).mono ?_
    rintro e w1 ⟨rfl, x1⟩
    have X1 := Lib.hid (X0.out.trans x1)
    have T1 := Lib.hid (T0.out.ext x1)
    obtain ⟨c0, c1⟩ := cells_of (x1.at B0.out)
    obtain ⟨u, v, k0, k1, f0, f1⟩ := T1.out.facts
    clear x1
    go_wp2_with fail
    have HH := set2_heap T1.out (.int .i64 n) (.int .i64 d)
    have XX := X1.out.set2 (g := w.heap.size + 1) (by omega) (.int .i64 n) (.int .i64 d)
    change bodyPost _ _ _ _ _ (N.set2 _ (w.heap.size + 1) (.int .i64 n) (.int .i64 d))
    obtain ⟨hc0, hc1⟩ := cells_of HH
    generalize N.set2 _ (w.heap.size + 1) (.int .i64 n) (.int .i64 d) = W3 at *
    exact bodyPost_ret (v := .tuple #[.agg #[.int .i64 n, .int .i64 d], .bool true]) (by simp [results, Try.results100, go_sem, hc0, hc1]) rfl ⟨rfl, XX⟩
  | false =>
    rw [hg] at C1
    rw [if_neg (by simp), if_neg (by simp)]
    clear hg
    go_enter Try.func100, Try.ntmps100
    go_wp2_with fail
    generalize (w.alloc (.cells #[.int .i64 n, .int .i64 d] 61)).alloc (.cells #[.int .i64 0, .int .i64 0] 61) = W at *
    refine (C1.out _).mono ?_
    rintro e w1 ⟨rfl, x1⟩
    have X1 := Lib.hid (X0.out.trans x1)
    have T1 := Lib.hid (T0.out.ext x1)
    obtain ⟨u, v, k0, k1, f0, f1⟩ := T1.out.facts
    clear x1
    go_wp2_with fail
    have HH := set2_heap T1.out (.int .i64 0) (.int .i64 0)
    have XX := X1.out.set2 (g := w.heap.size + 1) (by omega) (.int .i64 0) (.int .i64 0)
    change bodyPost _ _ _ _ _ (N.set2 _ (w.heap.size + 1) (.int .i64 0) (.int .i64 0))
    obtain ⟨hc0, hc1⟩ := cells_of HH
    generalize N.set2 _ (w.heap.size + 1) (.int .i64 0) (.int .i64 0) = W3 at *
    exact bodyPost_ret (v := .tuple #[.agg #[.int .i64 0, .int .i64 0], .bool false]) (by simp [results, Try.results100, go_sem, hc0, hc1]) rfl ⟨rfl, XX⟩

theorem pow_part {k : Nat} (h : k ≤ 40) : 2 ^ k * part k = 1099511627776 := part_mul h
theorem sN_mul (a : List UInt8) : sN a * 2 ^ a.length = nbI a a.length * sD a := by
  have g1 := Nat.gcd_dvd_left (nbI a a.length) (2 ^ a.length)
  have g2 := Nat.gcd_dvd_right (nbI a a.length) (2 ^ a.length)
  unfold sN sD
  rw [Nat.div_mul_right_comm g1, Nat.mul_div_assoc _ g2]
theorem sD_pos (a : List UInt8) : 0 < sD a := Nat.div_pos (Nat.le_of_dvd (Nat.two_pow_pos _) (Nat.gcd_dvd_right _ _)) (Nat.gcd_pos_of_pos_right _ (Nat.two_pow_pos _))
theorem sD_le (a : List UInt8) : sD a ≤ 2 ^ a.length := Nat.div_le_self _ _
theorem sN_le (a : List UInt8) : sN a ≤ 2 ^ a.length := Nat.le_trans (Nat.div_le_self _ _) (by have := nbI_lt a a.length; omega)
theorem sN_place (a : List UInt8) (h : a.length ≤ 40) : sN a * 1099511627776 = plA a * sD a := by
  have h1 := sN_mul a
  have h2 := plI_nbI a a.length h
  rw [← part_mul h, ← Nat.mul_assoc, h1]
  unfold plA
  rw [h2]
  simp only [Nat.mul_assoc, Nat.mul_comm, Nat.mul_left_comm]
theorem less_iff (a : List UInt8) (h : a.length ≤ 40) (m k : Nat) (hk : k ≤ 40) : (m * sD a < sN a * 2 ^ k) ↔ m * part k < plA a := by
  have h1 := sN_place a h
  have h2 := part_mul hk
  have sp := sD_pos a
  have e1 : m * sD a * 1099511627776 = m * part k * (sD a * 2 ^ k) := by rw [← h2]; simp only [Nat.mul_assoc, Nat.mul_comm, Nat.mul_left_comm]
  have e2 : sN a * 2 ^ k * 1099511627776 = plA a * (sD a * 2 ^ k) := by rw [Nat.mul_assoc, Nat.mul_comm (2 ^ k), ← Nat.mul_assoc, h1, Nat.mul_assoc]
  have pp : 0 < sD a * 2 ^ k := Nat.mul_pos sp (Nat.two_pow_pos k)
  constructor
  · intro hlt
    have : m * sD a * 1099511627776 < sN a * 2 ^ k * 1099511627776 := Nat.mul_lt_mul_of_pos_right hlt (by omega)
    rw [e1, e2] at this
    exact Nat.lt_of_mul_lt_mul_right this
  · intro hlt
    have : m * part k * (sD a * 2 ^ k) < plA a * (sD a * 2 ^ k) := Nat.mul_lt_mul_of_pos_right hlt pp
    rw [← e1, ← e2] at this
    exact Nat.lt_of_mul_lt_mul_right this
set_option maxHeartbeats 3200000 in
set_option maxRecDepth 100000 in
theorem mpLeaf_calls (T : Tr) (hd : T.depth ≤ 20) (hT : T.carets ≤ 1000) (m k : Nat) (hk : k ≤ 10) (hm : m ≤ 2 ^ k) (w : World) :
    Calls Try.prog 144 #[.string (tx T), .agg #[.int .i64 m, .int .i64 ((2 ^ k : Nat) : Int)]] w fun e w' => e = .returned (.int .i64 (si (m * part k) (addrs T []) 0 0 : Nat)) ∧ Ext w w' := by
  have X0 := Lib.hid ((Ext.refl w).alloc (.cells #[.int .i64 m, .int .i64 ((2 ^ k : Nat) : Int)] 61))
  have C1 := Lib.hid (fun W => mpStarts_calls T (by omega) hT W)
  have HL : Hid (∀ x ∈ addrs T [], x.length ≤ 20) := fun x hx => by have := addrs_depth T [] x hx; simp at this; omega
  have LA := addrs_length T []
  rw [← LA] at C1
  have L1 : (addrs T []).length ≤ 1001 := by omega
  have DK : 2 ^ k ≤ 1024 := Nat.pow_le_pow_right (n := 2) (by omega) hk
  have HLE : Hid (∀ a : List UInt8, a.length ≤ 20 → decide (m * sD a < sN a * 2 ^ k) = decide (m * part k < plA a)) := fun a ha => decide_eq_decide.2 (less_iff a (by omega) m k (by omega))
  generalize addrs T [] = l at *
  generalize tx T = t at *
  generalize m * part k = P at *
  generalize 2 ^ k = D at *
  clear hd hT LA hk
  have B0 : Hid ((w.alloc (.cells #[.int .i64 (m : Int), .int .i64 (D : Int)] 61)).heap[w.heap.size]? = some (.cells #[.int .i64 (m : Int), .int .i64 (D : Int)] 61)) := heap_alloc_new w _
  go_enter Try.func144, Try.ntmps144
  go_wp2_with fail
  generalize w.alloc (.cells #[.int .i64 (m : Int), .int .i64 (D : Int)] 61) = W at *
  refine (C1.out _).mono ?_
  rintro e w1 ⟨v1, rfl, o1, x1⟩
  have X1 := Lib.hid (X0.out.trans x1)
  have B1 := Lib.hid (x1.at B0.out)
  have O1 := Lib.hid o1
  obtain ⟨A1, q1, rfl⟩ : ∃ A q, v1 = .slice A l.length q := by
    rcases o1.2 with ⟨rfl, h0⟩ | ⟨g, cap, cur, rfl, _⟩
    · exact ⟨none, 0, by rw [h0]⟩
    · exact ⟨_, _, rfl⟩
  clear o1 x1
  go_wp2_with fail
  go_loopw [11, 5] (fun i lf wr => ∃ j c : Nat, j ≤ l.length ∧ i = .int .i64 j ∧ lf = .int .i64 c ∧ Hid (si P (l.drop j) j c = si P l 0 0) ∧ Hid (Ext w1 wr)) (fun i _ _ => l.length - (intOf i).toNat)
  case atStart => exact ⟨0, 0, Nat.zero_le _, rfl, rfl, rfl, Ext.refl _⟩
  case round =>
    obtain ⟨j, c, hj, rfl, rfl, HS, HX⟩ := hrel
    by_cases hlt : j < l.length
    · obtain ⟨g, cap, e1, hcell⟩ := new_slice_cell O1.out (by omega)
      injection e1 with e2 e3 e4
      subst e2 e4
      clear e3
      have hget := frs_get (l.map stF) j (stF l[j]) (by rw [List.getElem?_map, List.getElem?_eq_getElem hlt]; rfl)
      have la := HL.out _ (List.getElem_mem hlt)
      have d0 : wr.cell? ⟨g, j * 2, none⟩ = some (.int .i64 (sN l[j] : Nat)) := HX.out.cell (hcell _ _ hget.1)
      have d1 : wr.cell? ⟨g, j * 2 + 1, none⟩ = some (.int .i64 (sD l[j] : Nat)) := HX.out.cell (hcell _ _ hget.2)
      have h0 : (0 : Int) ≤ j := by omega
      have h1 : (j : Int) < l.length := by omega
      have p20 : 2 ^ l[j].length ≤ 1048576 := Nat.pow_le_pow_right (n := 2) (by omega) la
      have n1 := sN_le l[j]
      have n2 := sD_le l[j]
      have CL := Lib.hid (fun W => mpLess_calls m D (sN l[j]) (sD l[j]) (by omega) (by omega) (Nat.le_trans (Nat.mul_le_mul hm n2) (Nat.le_trans (Nat.mul_le_mul DK p20) (by decide))) (Nat.le_trans (Nat.mul_le_mul n1 DK) (Nat.le_trans (Nat.mul_le_mul_right _ p20) (by decide))) W)
      rw [HLE.out _ la] at CL
      have ST : Hid (si P (l.drop j) j c = si P (l.drop (j + 1)) (j + 1) (if plA l[j] ≤ P then j else c)) := by
        show _ = _
        rw [List.drop_eq_getElem_cons hlt]; rfl
      generalize sN l[j] = sn at *
      generalize sD l[j] = sd at *
      clear hget hcell p20 n1 n2 la
      have NB := Lib.hid (((HX.out.at B1.out)))
      obtain ⟨c0, c1⟩ := cells_of (((Ext.refl wr).alloc (.cells #[.int .i64 (sn : Nat), .int .i64 (sd : Nat)] 61)).at NB.out)
      obtain ⟨c2, c3⟩ := cells_of (heap_alloc_new wr (.cells #[.int .i64 (sn : Nat), .int .i64 (sd : Nat)] 61))
      have XL := Lib.hid (HX.out.alloc (.cells #[.int .i64 (sn : Nat), .int .i64 (sd : Nat)] 61))
      by_cases hp : plA l[j] ≤ P
      · rw [if_pos hp] at ST
        rw [decide_eq_false (by omega)] at CL
        have HS2 := Lib.hid (ST.out.symm.trans HS.out)
        clear hp
        go_wp2_with fail
        refine (CL.out _).mono ?_
        rintro e w2 ⟨rfl, x2⟩
        have X2 := Lib.hid (XL.out.trans x2)
        clear x2
        go_wp2_with fail
        exact ⟨⟨j + 1, j, by omega, by go_num, rfl, HS2.out, X2.out⟩, by simp [intOf]; omega⟩
      · rw [if_neg hp] at ST
        rw [decide_eq_true (by omega)] at CL
        have HS2 := Lib.hid (ST.out.symm.trans HS.out)
        clear hp
        go_wp2_with fail
        refine (CL.out _).mono ?_
        rintro e w2 ⟨rfl, x2⟩
        have X2 := Lib.hid (XL.out.trans x2)
        clear x2
        go_wp2_with fail
        exact ⟨⟨j + 1, c, by omega, by go_num, rfl, HS2.out, X2.out⟩, by simp [intOf]; omega⟩
    · have h1 : (l.length : Int) ≤ j := by omega
      obtain rfl : j = l.length := by omega
      have HS2 : Hid (si P l 0 0 = c) := by show _ = _; rw [← HS.out, List.drop_length]; rfl
      go_wp2_with fail
      go_ret
      exact ⟨by rw [HS2.out]; rfl, X1.out.trans HX.out⟩
end Go.Proofs.Ytfkjjmmoipcddaa.N
