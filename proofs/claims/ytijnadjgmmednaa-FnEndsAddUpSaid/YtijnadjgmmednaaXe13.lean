import Derived.BigRegion
import Derived.Test.YtijnadjgmmednaaXe7
/- A part of the proof: lemmas that later parts use. -/
set_option linter.unusedVariables false
set_option linter.unusedSimpArgs false
namespace Go.Proofs.Ytijnadjgmmednaa.N
open Go.RowKit
set_option maxHeartbeats 3200000 in
set_option maxRecDepth 100000 in
theorem trAddresses_calls (T : Tr) : ∀ (a : List UInt8) (s : ByteArray) (w : World), T.depth ≤ 60 → T.carets ≤ 1000 → a.length + T.carets ≤ 100000 → s = S a →
    Calls Try.prog 125 #[.string (tx T), .string s] w (GivesS w (addrs T a)) := by
  induction T with
  | leaf =>
    intro a s w _ _ _ hs
    subst hs
    have C1 := Lib.hid (fun W => trLeaf_leaf W)
    rw [show addrs .leaf a = [a] from rfl]
    generalize tx .leaf = z at *
    have OL : Hid (Own (w.alloc (.cells #[.string (S a)] 9)) w.heap.size 9 (.slice (some ⟨w.heap.size, 0, none⟩) 1 1) (sls [a])) := Own.lit w w.heap.size 9 #[.string (S a)] (Nat.le_refl _) (by show 1 ≤ maxLen; decide)
    have XL := Lib.hid ((Ext.refl w).alloc (.cells #[.string (S a)] 9))
    go_enter Try.func125, Try.ntmps125
    go_wp2_with fail
    refine (C1.out _).mono ?_
    rintro e w1 ⟨rfl, rfl⟩
    go_wp2_with fail
    go_ret
    exact ⟨_, rfl, OL.out, XL.out⟩
  | node l r ihl ihr =>
    intro a s w hd hc hk hs
    subst hs
    have C1 := Lib.hid (fun W => trLeaf_node l r W)
    have C3 := Lib.hid (fun W => trSides_calls l r hd (by omega) W)
    simp only [Tr.depth, Tr.carets] at hd hc hk
    have C5 := Lib.hid (fun W => ihl (a ++ [48]) (S (a ++ [48])) W (by omega) (by omega) (by simp; omega) rfl)
    have C6 := Lib.hid (fun W => ihr (a ++ [49]) (S (a ++ [49])) W (by omega) (by omega) (by simp; omega) rfl)
    have L2 : Hid (((sls (addrs l (a ++ [48]))).length + (sls (addrs r (a ++ [49]))).length) * 16 ≤ 140737488355328) := by show _ ≤ _; rw [sls_length, sls_length, addrs_length, addrs_length]; omega
    rw [show addrs (.node l r) a = addrs l (a ++ [48]) ++ addrs r (a ++ [49]) from rfl]
    have W1 : Hid (S a ++ ({ data := #[48] } : ByteArray) = S (a ++ [48])) := S_append a [48]
    have W2 : Hid (S a ++ ({ data := #[49] } : ByteArray) = S (a ++ [49])) := S_append a [49]
    have sz : (S a).size ≤ 100000 := by show a.length ≤ _; omega
    generalize addrs l (a ++ [48]) = L1 at *
    generalize addrs r (a ++ [49]) = LR at *
    generalize tx (.node l r) = b at *
    generalize tx l = sl at *
    generalize tx r = sr at *
    generalize S (a ++ [48]) = s0 at *
    generalize S (a ++ [49]) = s1 at *
    generalize S a = s at *
    clear ihl ihr hd hc hk
    go_enter Try.func125, Try.ntmps125
    go_wp2_with fail
    refine (C1.out _).mono ?_
    rintro e w1 ⟨rfl, rfl⟩
    go_wp2_with fail
    refine (C3.out _).mono ?_
    rintro e w1 ⟨rfl, n1, rfl⟩
    have X2 := Lib.hid ((Ext.refl w).drewN n1)
    generalize w.drewN n1 = w2 at *
    go_wp2_with fail
    rw [W1.out]
    refine (C5.out _).mono ?_
    rintro e w3 ⟨v3, rfl, o3, x3⟩
    have X3 := Lib.hid (X2.out.trans x3)
    have O3 := Lib.hid (o3.mono X2.out.size)
    clear o3 x3
    go_wp2_with fail
    rw [W2.out]
    refine (C6.out _).mono ?_
    rintro e w4 ⟨v4, rfl, o4, x4⟩
    have X4 := Lib.hid (X3.out.trans x4)
    have O4 := o4.reads
    have O3 := O3.out.ext x4
    have B1 := Lib.hid X4.out.size
    clear o4 x4
    go_wp2_with (at_builtin; refine wpList_app rfl (.tmp 19) (.tmp 23) 56 rfl w.heap.size 9 (.string ⟨#[]⟩) 16 Try.underlying56 infoStr rfl (by omega) _ _ _ (sls LR) rfl rfl O3 O4 (sls_one _) L2.out B1.out ?_; intro v5 w5 o5 g5 _)
    have X5 := Lib.hid (X4.out.grown g5 O3.lo)
    rw [sls_append] at o5
    have O5 := Lib.hid o5
    clear o5 g5 O3 O4
    go_wp2_with fail
    go_ret
    exact ⟨_, rfl, O5.out, X5.out⟩
set_option maxHeartbeats 1600000 in
theorem mpGcd_calls (a b : Nat) (ha : a ≤ 1099511627776000) (hb : b ≤ 1099511627776000) (w : World) :
    Calls Try.prog 164 #[.int .i64 a, .int .i64 b] w fun e w' => e = .returned (.int .i64 (Nat.gcd a b : Nat)) ∧ Ext w w' := by
  go_enter Try.func164, Try.ntmps164
  go_wp2_with fail
  go_loopw [0, 1] (fun u v wr => ∃ x y : Nat, u = .int .i64 x ∧ v = .int .i64 y ∧ x ≤ 1099511627776000 ∧ y ≤ 1099511627776000 ∧ Hid (Ext w wr) ∧ Hid (Nat.gcd x y = Nat.gcd a b)) (fun _ v _ => (intOf v).toNat)
  case atStart => exact ⟨a, b, rfl, rfl, ha, hb, Ext.refl _, rfl⟩
  case round =>
    obtain ⟨x, y, rfl, rfl, hx, hy, HX, HG⟩ := hrel
    by_cases h0 : 0 < y
    · have g0 : (0 : Int) < y := by omega
      have y0 : ¬ (y : Int) = 0 := by omega
      have HG2 : Hid (Nat.gcd y (x % y) = Nat.gcd a b) := by show _ = _; rw [← HG.out, Nat.gcd_comm x y, Nat.gcd_rec y x, Nat.gcd_comm]
      have q0 : (x : Int).tmod y = ((x % y : Nat) : Int) := by rw [Int.tmod_eq_emod_of_nonneg (by omega)]; exact (Int.natCast_emod x y).symm
      have lt := Nat.mod_lt x h0
      generalize x % y = r at *
      go_wp2_with fail
      go_quiet (fail)
      have X2 := Lib.hid (HX.out.drewN nq)
      go_wp2_with fail
      exact ⟨⟨y, r, rfl, by go_num, hy, by omega, X2.out, HG2.out⟩, by simp [intOf]; omega⟩
    · obtain rfl : y = 0 := by omega
      have HE : Hid (Nat.gcd a b = x) := by show _ = _; rw [← HG.out, Nat.gcd_zero_right]
      go_wp2_with fail
      go_ret
      exact ⟨by rw [HE.out]; rfl, HX.out⟩
set_option maxHeartbeats 3200000 in
set_option maxRecDepth 100000 in
theorem mpShort_calls (a b : Nat) (ha : a ≤ 1099511627776000) (hb : b ≤ 1099511627776000) (hp : 0 < b) (w : World) :
    Calls Try.prog 131 #[.int .i64 a, .int .i64 b] w fun e w' => e = .returned (.agg #[.int .i64 (a / Nat.gcd a b : Nat), .int .i64 (b / Nat.gcd a b : Nat)]) ∧ Ext w w' := by
  have X0 := Lib.hid ((Ext.refl w).alloc (.cells #[.int .i64 0, .int .i64 0] 36))
  have T0 := Lib.hid (Two.new w (.int .i64 0) (.int .i64 0) 36 rfl)
  have C1 := Lib.hid (fun W => mpGcd_calls a b ha hb W)
  have gp : 0 < Nat.gcd a b := Nat.gcd_pos_of_pos_right a hp
  have q0 : (a : Int).tdiv (Nat.gcd a b : Nat) = ((a / Nat.gcd a b : Nat) : Int) := by rw [Int.tdiv_eq_ediv_of_nonneg (by omega)]; exact (Int.natCast_ediv _ _).symm
  have q1 : (b : Int).tdiv (Nat.gcd a b : Nat) = ((b / Nat.gcd a b : Nat) : Int) := by rw [Int.tdiv_eq_ediv_of_nonneg (by omega)]; exact (Int.natCast_ediv _ _).symm
  have l0 : a / Nat.gcd a b ≤ a := Nat.div_le_self _ _
  have l1 : b / Nat.gcd a b ≤ b := Nat.div_le_self _ _
  generalize a / Nat.gcd a b = qa at *
  generalize b / Nat.gcd a b = qb at *
  generalize Nat.gcd a b = g at *
  have g0 : ((g : Int) == 0) = false := by rw [beq_eq_false_iff_ne]; omega
  have g1 : ¬ (g : Int) = 0 := by omega
  have g2 : ¬ g = 0 := by omega
  have l2 : (qa : Int) ≤ 1099511627776000 := by omega
  have l3 : (qb : Int) ≤ 1099511627776000 := by omega
  clear gp
  go_enter Try.func131, Try.ntmps131
  go_wp2_with fail
  generalize w.alloc (.cells #[.int .i64 0, .int .i64 0] 36) = W at *
  refine (C1.out _).mono ?_
  rintro e w1 ⟨rfl, xd⟩
  have X1 := Lib.hid (X0.out.trans xd)
  have T1 := Lib.hid (T0.out.ext xd)
  clear xd
  obtain ⟨u, v, k0, k1, f0, f1⟩ := T1.out.facts
  go_wp2_with fail
  go_region
  have HH := ((Ext.refl _).drew).at (set2_heap T1.out (.int .i64 qa) (.int .i64 qb))
  have XX := (X1.out.set2 (g := w.heap.size) (Nat.le_refl _) (.int .i64 qa) (.int .i64 qb)).drew
  change Exit.then _ _ _ _ (N.set2 w1 w.heap.size (.int .i64 qa) (.int .i64 qb)).drew
  obtain ⟨hc0, hc1⟩ := cells_of HH
  generalize (N.set2 w1 w.heap.size (.int .i64 qa) (.int .i64 qb)).drew = W3 at *
  go_wp2_with fail
  exact bodyPost_ret (v := .agg #[.int .i64 qa, .int .i64 qb]) (by simp [results, Try.results131, go_sem, hc0, hc1]) rfl ⟨rfl, XX⟩
def nbI (a : List UInt8) : Nat → Nat
  | 0 => 0
  | i + 1 => 2 * nbI a i + if a[i]? = some 49 then 1 else 0
theorem nbI_lt (a : List UInt8) : ∀ i, nbI a i + 1 ≤ 2 ^ i
  | 0 => by simp [nbI]
  | i + 1 => by
    have := nbI_lt a i
    simp only [nbI, Nat.pow_succ]
    generalize 2 ^ i = z at *
    split <;> omega
theorem plI_nbI (a : List UInt8) : ∀ i, i ≤ 40 → plI a i = nbI a i * part i
  | 0, _ => by simp [plI, nbI]
  | i + 1, h => by
    have e := part_step (show i < 40 by omega)
    simp only [plI, nbI, plI_nbI a i (by omega), e, Nat.add_mul]
    have : nbI a i * (part (i + 1) * 2) = 2 * nbI a i * part (i + 1) := by rw [Nat.mul_comm (part (i + 1)) 2, ← Nat.mul_assoc, Nat.mul_comm (nbI a i) 2]
    rw [this]
    split <;> simp
def sN (a : List UInt8) : Nat := nbI a a.length / Nat.gcd (nbI a a.length) (2 ^ a.length)
def sD (a : List UInt8) : Nat := 2 ^ a.length / Nat.gcd (nbI a a.length) (2 ^ a.length)
def Bits (a : List UInt8) : Prop := ∀ c ∈ a, c = 48 ∨ c = 49
theorem addrs_bits : ∀ (T : Tr) (a x : List UInt8), Bits a → x ∈ addrs T a → Bits x
  | .leaf, a, x, ha, h => by simp [addrs] at h; subst h; exact ha
  | .node l r, a, x, ha, h => by
    simp only [addrs, List.mem_append] at h
    rcases h with h | h
    · exact addrs_bits l _ x (fun c hc => by rcases List.mem_append.1 hc with hc | hc; exact ha c hc; left; simpa using hc) h
    · exact addrs_bits r _ x (fun c hc => by rcases List.mem_append.1 hc with hc | hc; exact ha c hc; right; simpa using hc) h
set_option maxHeartbeats 3200000 in
set_option maxRecDepth 100000 in
theorem mpOf_calls (a : List UInt8) (hb : Bits a) (ha : a.length ≤ 40) (w : World) :
    Calls Try.prog 130 #[.string (S a)] w fun e w' => e = .returned (.agg #[.int .i64 (sN a : Nat), .int .i64 (sD a : Nat)]) ∧ Ext w w' := by
  have X0 := Lib.hid ((Ext.refl w).alloc (.cells #[.int .i64 0, .int .i64 0] 36))
  have T0 := Lib.hid (Two.new w (.int .i64 0) (.int .i64 0) 36 rfl)
  have p40 : 2 ^ a.length ≤ 1099511627776 := Nat.pow_le_pow_right (by omega) ha
  have nl := nbI_lt a a.length
  have C1 := Lib.hid (fun W => mpShort_calls (nbI a a.length) (2 ^ a.length) (by omega) (by omega) (Nat.two_pow_pos _) W)
  have ES : Hid (Calls Try.prog 130 #[.string (S a)] w (fun e w' => e = .returned (.agg #[.int .i64 (sN a : Nat), .int .i64 (sD a : Nat)]) ∧ Ext w w') = Calls Try.prog 130 #[.string (S a)] w (fun e w' => e = .returned (.agg #[.int .i64 (nbI a a.length / Nat.gcd (nbI a a.length) (2 ^ a.length) : Nat), .int .i64 (2 ^ a.length / Nat.gcd (nbI a a.length) (2 ^ a.length) : Nat)]) ∧ Ext w w')) := rfl
  rw [ES.out]
  generalize nbI a a.length / Nat.gcd (nbI a a.length) (2 ^ a.length) = qa at *
  generalize 2 ^ a.length / Nat.gcd (nbI a a.length) (2 ^ a.length) = qb at *
  have hz : ((S a).size : Int) = a.length := rfl
  have sz : (S a).size ≤ 40 := ha
  have m1 : min (S a).size 64 = a.length := by show min a.length 64 = _; omega
  have p2 : (2 : Int) ^ a.length = ((2 ^ a.length : Nat) : Int) := by rw [Int.natCast_pow]; rfl
  have p3 : (2 : Int) ^ (S a).size = ((2 ^ a.length : Nat) : Int) := p2
  have HB := Lib.hid hb
  have HN : Hid (∀ k, k < a.length → nbI a k ≤ 1099511627776) := fun k hk => by
    have := nbI_lt a k
    have : 2 ^ k ≤ 2 ^ 40 := Nat.pow_le_pow_right (by omega) (by omega)
    omega
  clear ES hb nl
  go_enter Try.func130, Try.ntmps130
  go_wp2_with fail
  generalize w.alloc (.cells #[.int .i64 0, .int .i64 0] 36) = W at *
  go_loop [4, 3] (fun i n => ∃ k : Nat, k ≤ a.length ∧ i = .int .i64 k ∧ n = .int .i64 (nbI a k : Nat)) (fun i _ => a.length - (intOf i).toNat)
  case atStart => exact ⟨0, Nat.zero_le _, rfl, rfl⟩
  case round =>
    obtain ⟨k, hk, rfl, rfl⟩ := hrel
    by_cases hlt : k < a.length
    · obtain ⟨c, hc⟩ : ∃ c, a[k]? = some c := ⟨_, List.getElem?_eq_getElem hlt⟩
      obtain ⟨x1, x2⟩ := s_at (S a) k c (by rw [S_toList]; exact hc)
      have h0 : (0 : Int) ≤ k := by omega
      have h1 : (k : Int) < (S a).size := by rw [hz]; omega
      have hb := HN.out k hlt
      have P1 : Hid (nbI a (k + 1) = 2 * nbI a k + if c = 49 then 1 else 0) := by show _ = _; simp only [nbI, hc, Option.some.injEq]
      have hcc := HB.out c (List.mem_of_getElem? hc)
      generalize nbI a k = z at *
      clear hc
      rcases hcc with rfl | rfl
      · rw [if_neg (by decide)] at P1
        have t4 : ((48 : UInt8).toNat : Int) = 48 := rfl
        go_wp2_with fail
        exact ⟨⟨k + 1, by omega, by go_num, by rw [P1.out]; go_num⟩, by simp [intOf]; omega⟩
      · rw [if_pos rfl] at P1
        have t4 : ((49 : UInt8).toNat : Int) = 49 := rfl
        go_wp2_with fail
        exact ⟨⟨k + 1, by omega, by go_num, by rw [P1.out]; go_num⟩, by simp [intOf]; omega⟩
    · have h1 : ¬ (k : Int) < (S a).size := by rw [hz]; omega
      obtain rfl : k = a.length := by omega
      generalize nbI a a.length = nn at *
      generalize 2 ^ a.length = D at *
      go_wp2_with fail
      refine (C1.out _).mono ?_
      rintro e w1 ⟨rfl, x1⟩
      have X1 := Lib.hid (X0.out.trans x1)
      have T1 := Lib.hid (T0.out.ext x1)
      obtain ⟨u, v, k0, k1, f0, f1⟩ := T1.out.facts
      clear x1
      go_wp2_with fail
      have HH := set2_heap T1.out (.int .i64 qa) (.int .i64 qb)
      have XX := X1.out.set2 (g := w.heap.size) (Nat.le_refl _) (.int .i64 qa) (.int .i64 qb)
      change bodyPost _ _ _ _ _ (N.set2 w1 w.heap.size (.int .i64 qa) (.int .i64 qb))
      obtain ⟨hc0, hc1⟩ := cells_of HH
      generalize N.set2 w1 w.heap.size (.int .i64 qa) (.int .i64 qb) = W3 at *
      exact bodyPost_ret (v := .agg #[.int .i64 qa, .int .i64 qb]) (by simp [results, Try.results130, go_sem, hc0, hc1]) rfl ⟨rfl, XX⟩
end Go.Proofs.Ytijnadjgmmednaa.N
