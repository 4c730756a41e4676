import Derived.BigRegion
import Derived.Test.YtgnepbogadfinaaDoorXf12
/- A part of the proof: lemmas that later parts use. -/
set_option linter.unusedVariables false
set_option linter.unusedSimpArgs false
namespace Go.Proofs.YtgnepbogadfinaaDoor.N
open Go.RowKit
set_option maxHeartbeats 3200000 in
set_option maxRecDepth 100000 in
theorem trAddresses_calls (T : Tr) : ∀ (a : List UInt8) (s : ByteArray) (w : World), T.depth ≤ 60 → T.carets ≤ 1000 → a.length + T.carets ≤ 100000 → s = S a →
    Calls Tryd.prog 71 #[.string (tx T), .string s] w (GivesS w (addrs T a)) := by
  induction T with
  | leaf =>
    intro a s w _ _ _ hs
    subst hs
    have C1 := Lib.hid (fun W => trLeaf_leaf W)
    rw [show addrs .leaf a = [a] from rfl]
    generalize tx .leaf = z at *
    have OL : Hid (Own (w.alloc (.cells #[.string (S a)] 9)) w.heap.size 9 (.slice (some ⟨w.heap.size, 0, none⟩) 1 1) (sls [a])) := Own.lit w w.heap.size 9 #[.string (S a)] (Nat.le_refl _) (by show 1 ≤ maxLen; decide)
    have XL := Lib.hid ((Ext.refl w).alloc (.cells #[.string (S a)] 9))
    go_enter Tryd.func71, Tryd.ntmps71
    go_wp2_with fail
    refine (C1.out _).mono ?_
    rintro e w1 ⟨rfl, rfl⟩
    go_wp2_with fail
    go_ret
    exact ⟨_, rfl, OL.out, XL.out⟩
  | node l r ihl ihr =>
    intro a s w hd hc hk hs
    subst hs
    have C1 := Lib.hid (fun W => trLeaf_node l r W)
    have C3 := Lib.hid (fun W => trSides_calls l r hd (by omega) W)
    simp only [Tr.depth, Tr.carets] at hd hc hk
    have C5 := Lib.hid (fun W => ihl (a ++ [48]) (S (a ++ [48])) W (by omega) (by omega) (by simp; omega) rfl)
    have C6 := Lib.hid (fun W => ihr (a ++ [49]) (S (a ++ [49])) W (by omega) (by omega) (by simp; omega) rfl)
    have L2 : Hid (((sls (addrs l (a ++ [48]))).length + (sls (addrs r (a ++ [49]))).length) * 16 ≤ 140737488355328) := by show _ ≤ _; rw [sls_length, sls_length, addrs_length, addrs_length]; omega
    rw [show addrs (.node l r) a = addrs l (a ++ [48]) ++ addrs r (a ++ [49]) from rfl]
    have W1 : Hid (S a ++ ({ data := #[48] } : ByteArray) = S (a ++ [48])) := S_append a [48]
    have W2 : Hid (S a ++ ({ data := #[49] } : ByteArray) = S (a ++ [49])) := S_append a [49]
    have sz : (S a).size ≤ 100000 := by show a.length ≤ _; omega
    generalize addrs l (a ++ [48]) = L1 at *
    generalize addrs r (a ++ [49]) = LR at *
    generalize tx (.node l r) = b at *
    generalize tx l = sl at *
    generalize tx r = sr at *
    generalize S (a ++ [48]) = s0 at *
    generalize S (a ++ [49]) = s1 at *
    generalize S a = s at *
    clear ihl ihr hd hc hk
    go_enter Tryd.func71, Tryd.ntmps71
    go_wp2_with fail
    refine (C1.out _).mono ?_
    rintro e w1 ⟨rfl, rfl⟩
    go_wp2_with fail
    refine (C3.out _).mono ?_
    rintro e w1 ⟨rfl, n1, rfl⟩
    have X2 := Lib.hid ((Ext.refl w).drewN n1)
    generalize w.drewN n1 = w2 at *
    go_wp2_with fail
    rw [W1.out]
    refine (C5.out _).mono ?_
    rintro e w3 ⟨v3, rfl, o3, x3⟩
    have X3 := Lib.hid (X2.out.trans x3)
    have O3 := Lib.hid (o3.mono X2.out.size)
    clear o3 x3
    go_wp2_with fail
    rw [W2.out]
    refine (C6.out _).mono ?_
    rintro e w4 ⟨v4, rfl, o4, x4⟩
    have X4 := Lib.hid (X3.out.trans x4)
    have O4 := o4.reads
    have O3 := O3.out.ext x4
    have B1 := Lib.hid X4.out.size
    clear o4 x4
    go_wp2_with (at_builtin; refine wpList_app rfl (.tmp 19) (.tmp 23) 83 rfl w.heap.size 9 (.string ⟨#[]⟩) 16 Tryd.underlying83 infoStr rfl (by omega) _ _ _ (sls LR) rfl rfl O3 O4 (sls_one _) L2.out B1.out ?_; intro v5 w5 o5 g5 _)
    have X5 := Lib.hid (X4.out.grown g5 O3.lo)
    rw [sls_append] at o5
    have O5 := Lib.hid o5
    clear o5 g5 O3 O4
    go_wp2_with fail
    go_ret
    exact ⟨_, rfl, O5.out, X5.out⟩
set_option maxHeartbeats 1600000 in
theorem mpGcd_calls (a b : Nat) (ha : a ≤ 1099511627776000) (hb : b ≤ 1099511627776000) (w : World) :
    Calls Tryd.prog 95 #[.int .i64 a, .int .i64 b] w fun e w' => e = .returned (.int .i64 (Nat.gcd a b : Nat)) ∧ Ext w w' := by
  go_enter Tryd.func95, Tryd.ntmps95
  go_wp2_with fail
  go_loopw [0, 1] (fun u v wr => ∃ x y : Nat, u = .int .i64 x ∧ v = .int .i64 y ∧ x ≤ 1099511627776000 ∧ y ≤ 1099511627776000 ∧ Hid (Ext w wr) ∧ Hid (Nat.gcd x y = Nat.gcd a b)) (fun _ v _ => (intOf v).toNat)
  case atStart => exact ⟨a, b, rfl, rfl, ha, hb, Ext.refl _, rfl⟩
  case round =>
    obtain ⟨x, y, rfl, rfl, hx, hy, HX, HG⟩ := hrel
    by_cases h0 : 0 < y
    · have g0 : (0 : Int) < y := by omega
      have y0 : ¬ (y : Int) = 0 := by omega
      have HG2 : Hid (Nat.gcd y (x % y) = Nat.gcd a b) := by show _ = _; rw [← HG.out, Nat.gcd_comm x y, Nat.gcd_rec y x, Nat.gcd_comm]
      have q0 : (x : Int).tmod y = ((x % y : Nat) : Int) := by rw [Int.tmod_eq_emod_of_nonneg (by omega)]; exact (Int.natCast_emod x y).symm
      have lt := Nat.mod_lt x h0
      generalize x % y = r at *
      go_wp2_with fail
      go_quiet (fail)
      have X2 := Lib.hid (HX.out.drewN nq)
      go_wp2_with fail
      exact ⟨⟨y, r, rfl, by go_num, hy, by omega, X2.out, HG2.out⟩, by simp [intOf]; omega⟩
    · obtain rfl : y = 0 := by omega
      have HE : Hid (Nat.gcd a b = x) := by show _ = _; rw [← HG.out, Nat.gcd_zero_right]
      go_wp2_with fail
      go_ret
      exact ⟨by rw [HE.out]; rfl, HX.out⟩
set_option maxHeartbeats 3200000 in
set_option maxRecDepth 100000 in
theorem mpShort_calls (a b : Nat) (ha : a ≤ 1099511627776000) (hb : b ≤ 1099511627776000) (hp : 0 < b) (w : World) :
    Calls Tryd.prog 72 #[.int .i64 a, .int .i64 b] w fun e w' => e = .returned (.agg #[.int .i64 (a / Nat.gcd a b : Nat), .int .i64 (b / Nat.gcd a b : Nat)]) ∧ Ext w w' := by
  have X0 := Lib.hid ((Ext.refl w).alloc (.cells #[.int .i64 0, .int .i64 0] 31))
  have T0 := Lib.hid (Two.new w (.int .i64 0) (.int .i64 0) 31 rfl)
  have C1 := Lib.hid (fun W => mpGcd_calls a b ha hb W)
  have gp : 0 < Nat.gcd a b := Nat.gcd_pos_of_pos_right a hp
  have q0 : (a : Int).tdiv (Nat.gcd a b : Nat) = ((a / Nat.gcd a b : Nat) : Int) := by rw [Int.tdiv_eq_ediv_of_nonneg (by omega)]; exact (Int.natCast_ediv _ _).symm
  have q1 : (b : Int).tdiv (Nat.gcd a b : Nat) = ((b / Nat.gcd a b : Nat) : Int) := by rw [Int.tdiv_eq_ediv_of_nonneg (by omega)]; exact (Int.natCast_ediv _ _).symm
  have l0 : a / Nat.gcd a b ≤ a := Nat.div_le_self _ _
  have l1 : b / Nat.gcd a b ≤ b := Nat.div_le_self _ _
  generalize a / Nat.gcd a b = qa at *
  generalize b / Nat.gcd a b = qb at *
  generalize Nat.gcd a b = g at *
  have g0 : ((g : Int) == 0) = false := by rw [beq_eq_false_iff_ne]; omega
  have g1 : ¬ (g : Int) = 0 := by omega
  have g2 : ¬ g = 0 := by omega
  have l2 : (qa : Int) ≤ 1099511627776000 := by omega
  have l3 : (qb : Int) ≤ 1099511627776000 := by omega
  clear gp
  go_enter Tryd.func72, Tryd.ntmps72
  go_wp2_with fail
  generalize w.alloc (.cells #[.int .i64 0, .int .i64 0] 31) = W at *
  refine (C1.out _).mono ?_
  rintro e w1 ⟨rfl, xd⟩
  have X1 := Lib.hid (X0.out.trans xd)
  have T1 := Lib.hid (T0.out.ext xd)
  clear xd
  obtain ⟨u, v, k0, k1, f0, f1⟩ := T1.out.facts
  go_wp2_with fail
  go_region
  have HH := ((Ext.refl _).drew).at (set2_heap T1.out (.int .i64 qa) (.int .i64 qb))
  have XX := (X1.out.set2 (g := w.heap.size) (Nat.le_refl _) (.int .i64 qa) (.int .i64 qb)).drew
  change Exit.then _ _ _ _ (N.set2 w1 w.heap.size (.int .i64 qa) (.int .i64 qb)).drew
  obtain ⟨hc0, hc1⟩ := cells_of HH
  generalize (N.set2 w1 w.heap.size (.int .i64 qa) (.int .i64 qb)).drew = W3 at *
  go_wp2_with fail
  exact bodyPost_ret (v := .agg #[.int .i64 qa, .int .i64 qb]) (by simp [results, Tryd.results72, go_sem, hc0, hc1]) rfl ⟨rfl, XX⟩
def nbI (a : List UInt8) : Nat → Nat
  | 0 => 0
  | i + 1 => 2 * nbI a i + if a[i]? = some 49 then 1 else 0
theorem nbI_lt (a : List UInt8) : ∀ i, nbI a i + 1 ≤ 2 ^ i
  | 0 => by simp [nbI]
  | i + 1 => by
    have := nbI_lt a i
    simp only [nbI, Nat.pow_succ]
    generalize 2 ^ i = z at *
    split <;> omega
theorem plI_nbI (a : List UInt8) : ∀ i, i ≤ 40 → plI a i = nbI a i * part i
  | 0, _ => by simp [plI, nbI]
  | i + 1, h => by
    have e := part_step (show i < 40 by omega)
    simp only [plI, nbI, plI_nbI a i (by omega), e, Nat.add_mul]
    have : nbI a i * (part (i + 1) * 2) = 2 * nbI a i * part (i + 1) := by rw [Nat.mul_comm (part (i + 1)) 2, ← Nat.mul_assoc, Nat.mul_comm (nbI a i) 2]
    rw [this]
    split <;> simp
def sN (a : List UInt8) : Nat := nbI a a.length / Nat.gcd (nbI a a.length) (2 ^ a.length)
def sD (a : List UInt8) : Nat := 2 ^ a.length / Nat.gcd (nbI a a.length) (2 ^ a.length)
def Bits (a : List UInt8) : Prop := ∀ c ∈ a, c = 48 ∨ c = 49
theorem addrs_bits : ∀ (T : Tr) (a x : List UInt8), Bits a → x ∈ addrs T a → Bits x
  | .leaf, a, x, ha, h => by simp [addrs] at h; subst h; exact ha
  | .node l r, a, x, ha, h => by
    simp only [addrs, List.mem_append] at h
    rcases h with h | h
    · exact addrs_bits l _ x (fun c hc => by rcases List.mem_append.1 hc with hc | hc; exact ha c hc; left; simpa using hc) h
    · exact addrs_bits r _ x (fun c hc => by rcases List.mem_append.1 hc with hc | hc; exact ha c hc; right; simpa using hc) h
set_option maxHeartbeats 3200000 in
set_option maxRecDepth 100000 in
theorem mpOf_calls (a : List UInt8) (hb : Bits a) (ha : a.length ≤ 40) (w : World) :
    Calls Tryd.prog 56 #[.string (S a)] w fun e w' => e = .returned (.agg #[.int .i64 (sN a : Nat), .int .i64 (sD a : Nat)]) ∧ Ext w w' := by
  have X0 := Lib.hid ((Ext.refl w).alloc (.cells #[.int .i64 0, .int .i64 0] 31))
  have T0 := Lib.hid (Two.new w (.int .i64 0) (.int .i64 0) 31 rfl)
  have p40 : 2 ^ a.length ≤ 1099511627776 := Nat.pow_le_pow_right (by omega) ha
  have nl := nbI_lt a a.length
  have C1 := Lib.hid (fun W => mpShort_calls (nbI a a.length) (2 ^ a.length) (by omega) (by omega) (Nat.two_pow_pos _) W)
  have ES : Hid (Calls Tryd.prog 56 #[.string (S a)] w (fun e w' => e = .returned (.agg #[.int .i64 (sN a : Nat), .int .i64 (sD a : Nat)]) ∧ Ext w w') = Calls Tryd.prog 56 #[.string (S a)] w (fun e w' => e = .returned (.agg #[.int .i64 (nbI a a.length / Nat.gcd (nbI a a.length) (2 ^ a.length) : Nat), .int .i64 (2 ^ a.length / Nat.gcd (nbI a a.length) (2 ^ a.length) : Nat)]) ∧ Ext w w')) := rfl
  rw [ES.out]
  generalize nbI a a.length / Nat.gcd (nbI a a.length) (2 ^ a.length) = qa at *
  generalize 2 ^ a.length / Nat.gcd (nbI a a.length) (2 ^ a.length) = qb at *
  have hz : ((S a).size : Int) = a.length := rfl
  have sz : (S a).size ≤ 40 := ha
  have m1 : min (S a).size 64 = a.length := by show min a.length 64 = _; omega
  have p2 : (2 : Int) ^ a.length = ((2 ^ a.length : Nat) : Int) := by rw [Int.natCast_pow]; rfl
  have p3 : (2 : Int) ^ (S a).size = ((2 ^ a.length : Nat) : Int) := p2
  have HB := Lib.hid hb
  have HN : Hid (∀ k, k < a.length → nbI a k ≤ 1099511627776) := fun k hk => by
    have := nbI_lt a k
    have : 2 ^ k ≤ 2 ^ 40 := Nat.pow_le_pow_right (by omega) (by omega)
    omega
  clear ES hb nl
  go_enter Tryd.func56, Tryd.ntmps56
  go_wp2_with fail
  generalize w.alloc (.cells #[.int .i64 0, .int .i64 0] 31) = W at *
  go_loop [4, 3] (fun i n => ∃ k : Nat, k ≤ a.length ∧ i = .int .i64 k ∧ n = .int .i64 (nbI a k : Nat)) (fun i _ => a.length - (intOf i).toNat)
  case atStart => exact ⟨0, Nat.zero_le _, rfl, rfl⟩
  case round =>
    obtain ⟨k, hk, rfl, rfl⟩ := hrel
    by_cases hlt : k < a.length
    · obtain ⟨c, hc⟩ : ∃ c, a[k]? = some c := ⟨_, List.getElem?_eq_getElem hlt⟩
      obtain ⟨x1, x2⟩ := s_at (S a) k c (by rw [S_toList]; exact hc)
      have h0 : (0 : Int) ≤ k := by omega
      have h1 : (k : Int) < (S a).size := by rw [hz]; omega
      have hb := HN.out k hlt
      have P1 : Hid (nbI a (k + 1) = 2 * nbI a k + if c = 49 then 1 else 0) := by show _ = _; simp only [nbI, hc, Option.some.injEq]
      have hcc := HB.out c (List.mem_of_getElem? hc)
      generalize nbI a k = z at *
      clear hc
      rcases hcc with rfl | rfl
      · rw [if_neg (by decide)] at P1
        have t4 : ((48 : UInt8).toNat : Int) = 48 := rfl
        go_wp2_with fail
        exact ⟨⟨k + 1, by omega, by go_num, by rw [P1.out]; go_num⟩, by simp [intOf]; omega⟩
      · rw [if_pos rfl] at P1
        have t4 : ((49 : UInt8).toNat : Int) = 49 := rfl
        go_wp2_with fail
        exact ⟨⟨k + 1, by omega, by go_num, by rw [P1.out]; go_num⟩, by simp [intOf]; omega⟩
    · have h1 : ¬ (k : Int) < (S a).size := by rw [hz]; omega
      obtain rfl : k = a.length := by omega
      generalize nbI a a.length = nn at *
      generalize 2 ^ a.length = D at *
      go_wp2_with fail
      refine (C1.out _).mono ?_
      rintro e w1 ⟨rfl, x1⟩
      have X1 := Lib.hid (X0.out.trans x1)
      have T1 := Lib.hid (T0.out.ext x1)
      obtain ⟨u, v, k0, k1, f0, f1⟩ := T1.out.facts
      clear x1
      go_wp2_with fail
      have HH := set2_heap T1.out (.int .i64 qa) (.int .i64 qb)
      have XX := X1.out.set2 (g := w.heap.size) (Nat.le_refl _) (.int .i64 qa) (.int .i64 qb)
      change bodyPost _ _ _ _ _ (N.set2 w1 w.heap.size (.int .i64 qa) (.int .i64 qb))
      obtain ⟨hc0, hc1⟩ := cells_of HH
      generalize N.set2 w1 w.heap.size (.int .i64 qa) (.int .i64 qb) = W3 at *
      exact bodyPost_ret (v := .agg #[.int .i64 qa, .int .i64 qb]) (by simp [results, Tryd.results56, go_sem, hc0, hc1]) rfl ⟨rfl, XX⟩
end Go.Proofs.YtgnepbogadfinaaDoor.N
namespace Go.Proofs.YtgnepbogadfinaaDoor.N
open Go.RowKit
theorem infoFr : (Tryd.prog.info? 31).map (fun i => (i.zero, i.size, i.bytes)) = some (some (.agg #[.int .i64 0, .int .i64 0]), 2, 16) := by kernel_rfl
def frs (l : List (Nat × Nat)) : List Value := l.flatMap fun x => [.int .i64 (x.1 : Nat), .int .i64 (x.2 : Nat)]
theorem frs_append (l m : List (Nat × Nat)) : frs (l ++ m) = frs l ++ frs m := by simp [frs]
theorem frs_get : ∀ (l : List (Nat × Nat)) (k : Nat) (x : Nat × Nat), l[k]? = some x → (frs l)[k * 2]? = some (.int .i64 (x.1 : Nat)) ∧ (frs l)[k * 2 + 1]? = some (.int .i64 (x.2 : Nat))
  | [], _, _, h => by simp at h
  | y :: l, 0, x, h => by
    simp only [List.getElem?_cons_zero, Option.some.injEq] at h
    subst h
    exact ⟨rfl, rfl⟩
  | y :: l, k + 1, x, h => by
    have := frs_get l k x (by simpa using h)
    unfold frs at this ⊢
    rw [List.flatMap_cons, List.getElem?_append_right (by simp; omega), List.getElem?_append_right (by simp; omega)]
    simp only [List.length_cons, List.length_nil]
    rw [show (k + 1) * 2 - (0 + 1 + 1) = k * 2 by omega, show (k + 1) * 2 + 1 - (0 + 1 + 1) = k * 2 + 1 by omega]
    exact this
def stF (a : List UInt8) : Nat × Nat := (sN a, sD a)
set_option maxHeartbeats 3200000 in
set_option maxRecDepth 100000 in
theorem mpStarts_calls (T : Tr) (hd : T.depth ≤ 40) (hT : T.carets ≤ 1000) (w : World) :
    Calls Tryd.prog 69 #[.string (tx T)] w fun e w' => ∃ v, e = .returned v ∧ w'.ownsRow w.heap.size 31 2 v (T.carets + 1) (frs ((addrs T []).map stF)) ∧ Ext w w' := by
  have C1 := Lib.hid (fun W => trAddresses_calls T [] ⟨#[]⟩ W (by omega) hT (by simp; omega) rfl)
  have HB : Hid (∀ x ∈ addrs T [], Bits x) := fun x hx => addrs_bits T [] x (fun c h => by cases h) hx
  have HL : Hid (∀ x ∈ addrs T [], x.length ≤ 40) := fun x hx => by have := addrs_depth T [] x hx; simp at this; omega
  have LA := addrs_length T []
  rw [← LA]
  have L1 : (addrs T []).length ≤ 1001 := by omega
  generalize addrs T [] = l at *
  generalize tx T = t at *
  clear hd hT LA
  go_enter Tryd.func69, Tryd.ntmps69
  go_wp2_with fail
  refine (C1.out _).mono ?_
  rintro e w1 ⟨v1, rfl, o1, x1⟩
  obtain ⟨A1, q1, rfl, _, _⟩ := o1.reads
  rw [sls_length] at o1 ⊢
  have R1 := Lib.hid o1.reads
  have X1 := Lib.hid x1
  clear o1 x1
  go_wp2_with fail
  go_loopw [9, 3] (fun i o wr => ∃ k : Nat, k ≤ l.length ∧ i = .int .i64 k ∧ Hid (wr.ownsRow w1.heap.size 31 2 o k (frs ((l.take k).map stF))) ∧ Hid (Ext w1 wr)) (fun i _ _ => l.length - (intOf i).toNat)
  case atStart => exact ⟨0, Nat.zero_le _, rfl, World.ownsRow_nil _ _ _ _, Ext.refl _⟩
  case round =>
    obtain ⟨k, hk, rfl, HO, HX⟩ := hrel
    by_cases hlt : k < l.length
    · obtain ⟨Ax, cx, e1, _, rd⟩ := R1.out.ext HX.out
      rw [sls_length] at rd e1
      obtain ⟨ad, e2, ca⟩ := rd (by omega)
      injection e1 with e3 e4 e5
      subst e3 e5
      subst e2
      clear e4
      have c1 := ca k _ (sls_get l k hlt)
      have h0 : (0 : Int) ≤ k := by omega
      have h1 : (k : Int) < l.length := by omega
      have C2 := Lib.hid (fun W => mpOf_calls l[k] (HB.out _ (List.getElem_mem hlt)) (HL.out _ (List.getElem_mem hlt)) W)
      have TK : Hid (frs ((l.take (k + 1)).map stF) = frs ((l.take k).map stF) ++ [.int .i64 (sN l[k] : Nat), .int .i64 (sD l[k] : Nat)]) := by
        show _ = _
        rw [List.take_add_one, List.getElem?_eq_getElem hlt, List.map_append, frs_append]; rfl
      clear ca rd
      generalize sN l[k] = sn at *
      generalize sD l[k] = sd at *
      generalize l[k] = a at *
      go_wp2_with fail
      refine (C2.out _).mono ?_
      rintro e w2 ⟨rfl, x2⟩
      have O2 := row_ext (row_ext HO.out x2) ((Ext.refl w2).alloc (.cells #[.int .i64 (sn : Nat), .int .i64 (sd : Nat)] 31))
      have X2 := Lib.hid ((HX.out.trans x2).alloc (.cells #[.int .i64 (sn : Nat), .int .i64 (sd : Nat)] 31))
      have LO := Lib.hid (fun j hj => (O2.lt j hj).1)
      clear x2
      go_wp2_with (at_builtin; refine wpList_appK rfl (.tmp 13) (.tmp 16) 55 rfl w1.heap.size 31 _ 2 16 Tryd.underlying55 infoFr rfl (by omega) _ k 1 1 _ _ [.int .i64 (sn : Nat), .int .i64 (sd : Nat)] rfl rfl O2 rfl (new_cells w2 #[.int .i64 (sn : Nat), .int .i64 (sd : Nat)] _) (by simp [Value.oneCell']) (by unfold maxLen; omega) (by omega) X2.out.size ?_; intro v4 w4 o4 g4 _)
      have X4 := Lib.hid (X2.out.grown g4 LO.out)
      rw [← TK.out] at o4
      have O4 := Lib.hid o4
      clear o4 g4 O2
      go_wp2_with fail
      exact ⟨⟨k + 1, by omega, by go_num, O4.out, X4.out⟩, by simp [intOf]; omega⟩
    · have h1 : (l.length : Int) ≤ k := by omega
      obtain rfl : k = l.length := by omega
      have HO2 := HO.out
      rw [List.take_length] at HO2
      have HO2 := Lib.hid HO2
      go_wp2_with fail
      go_ret
      exact ⟨_, rfl, row_mono HO2.out X1.out.size, X1.out.trans HX.out⟩
set_option maxHeartbeats 1600000 in
theorem mpLess_calls (a b c d : Nat) (ha : a ≤ 1099511627776) (hb : b ≤ 1099511627776) (h1 : a * d ≤ 1125899906842624) (h2 : c * b ≤ 1125899906842624) (w : World) :
    Calls Tryd.prog 37 #[.agg #[.int .i64 a, .int .i64 b], .agg #[.int .i64 c, .int .i64 d]] w fun e w' => e = .returned (.bool (decide (a * d < c * b))) ∧ Ext w w' := by
  have X0 := Lib.hid (((Ext.refl w).alloc (.cells #[.int .i64 a, .int .i64 b] 31)).alloc (.cells #[.int .i64 c, .int .i64 d] 31))
  have p1 : (a : Int) * d = ((a * d : Nat) : Int) := (Int.natCast_mul a d).symm
  have p2 : (c : Int) * b = ((c * b : Nat) : Int) := (Int.natCast_mul c b).symm
  have q1 : ((a * d : Nat) : Int) ≤ 1125899906842624 := by omega
  have q2 : ((c * b : Nat) : Int) ≤ 1125899906842624 := by omega
  generalize a * d = x at *
  generalize c * b = y at *
  go_enter Tryd.func37, Tryd.ntmps37
  go_wp2_with fail
  go_ret
  exact ⟨rfl, X0.out⟩
theorem sN_mul (a : List UInt8) : sN a * 2 ^ a.length = nbI a a.length * sD a := by
  have g1 := Nat.gcd_dvd_left (nbI a a.length) (2 ^ a.length)
  have g2 := Nat.gcd_dvd_right (nbI a a.length) (2 ^ a.length)
  unfold sN sD
  rw [Nat.div_mul_right_comm g1, Nat.mul_div_assoc _ g2]
theorem sD_pos (a : List UInt8) : 0 < sD a := Nat.div_pos (Nat.le_of_dvd (Nat.two_pow_pos _) (Nat.gcd_dvd_right _ _)) (Nat.gcd_pos_of_pos_right _ (Nat.two_pow_pos _))
theorem sD_le (a : List UInt8) : sD a ≤ 2 ^ a.length := Nat.div_le_self _ _
theorem sN_le (a : List UInt8) : sN a ≤ 2 ^ a.length := Nat.le_trans (Nat.div_le_self _ _) (by have := nbI_lt a a.length; omega)
theorem sN_place (a : List UInt8) (h : a.length ≤ 40) : sN a * 1099511627776 = plA a * sD a := by
  have h1 := sN_mul a
  have h2 := plI_nbI a a.length h
  rw [← part_mul h, ← Nat.mul_assoc, h1]
  unfold plA
  rw [h2]
  simp only [Nat.mul_assoc, Nat.mul_comm, Nat.mul_left_comm]
theorem less_iff (a : List UInt8) (h : a.length ≤ 40) (m k : Nat) (hk : k ≤ 40) : (m * sD a < sN a * 2 ^ k) ↔ m * part k < plA a := by
  have h1 := sN_place a h
  have h2 := part_mul hk
  have sp := sD_pos a
  have e1 : m * sD a * 1099511627776 = m * part k * (sD a * 2 ^ k) := by rw [← h2]; simp only [Nat.mul_assoc, Nat.mul_comm, Nat.mul_left_comm]
  have e2 : sN a * 2 ^ k * 1099511627776 = plA a * (sD a * 2 ^ k) := by rw [Nat.mul_assoc, Nat.mul_comm (2 ^ k), ← Nat.mul_assoc, h1, Nat.mul_assoc]
  have pp : 0 < sD a * 2 ^ k := Nat.mul_pos sp (Nat.two_pow_pos k)
  constructor
  · intro hlt
    have : m * sD a * 1099511627776 < sN a * 2 ^ k * 1099511627776 := Nat.mul_lt_mul_of_pos_right hlt (by omega)
    rw [e1, e2] at this
    exact Nat.lt_of_mul_lt_mul_right this
  · intro hlt
    have : m * part k * (sD a * 2 ^ k) < plA a * (sD a * 2 ^ k) := Nat.mul_lt_mul_of_pos_right hlt pp
    rw [← e1, ← e2] at this
    exact Nat.lt_of_mul_lt_mul_right this
set_option maxHeartbeats 3200000 in
set_option maxRecDepth 100000 in
theorem mpLeaf_calls (T : Tr) (hd : T.depth ≤ 20) (hT : T.carets ≤ 1000) (m k : Nat) (hk : k ≤ 10) (hm : m ≤ 2 ^ k) (w : World) :
    Calls Tryd.prog 66 #[.string (tx T), .agg #[.int .i64 m, .int .i64 ((2 ^ k : Nat) : Int)]] w fun e w' => e = .returned (.int .i64 (si (m * part k) (addrs T []) 0 0 : Nat)) ∧ Ext w w' := by
  have X0 := Lib.hid ((Ext.refl w).alloc (.cells #[.int .i64 m, .int .i64 ((2 ^ k : Nat) : Int)] 31))
  have C1 := Lib.hid (fun W => mpStarts_calls T (by omega) hT W)
  have HL : Hid (∀ x ∈ addrs T [], x.length ≤ 20) := fun x hx => by have := addrs_depth T [] x hx; simp at this; omega
  have LA := addrs_length T []
  rw [← LA] at C1
  have L1 : (addrs T []).length ≤ 1001 := by omega
  have DK : 2 ^ k ≤ 1024 := Nat.pow_le_pow_right (n := 2) (by omega) hk
  have HLE : Hid (∀ a : List UInt8, a.length ≤ 20 → decide (m * sD a < sN a * 2 ^ k) = decide (m * part k < plA a)) := fun a ha => decide_eq_decide.2 (less_iff a (by omega) m k (by omega))
  generalize addrs T [] = l at *
  generalize tx T = t at *
  generalize m * part k = P at *
  generalize 2 ^ k = D at *
  clear hd hT LA hk
  have B0 : Hid ((w.alloc (.cells #[.int .i64 (m : Int), .int .i64 (D : Int)] 31)).heap[w.heap.size]? = some (.cells #[.int .i64 (m : Int), .int .i64 (D : Int)] 31)) := heap_alloc_new w _
  go_enter Tryd.func66, Tryd.ntmps66
  go_wp2_with fail
  generalize w.alloc (.cells #[.int .i64 (m : Int), .int .i64 (D : Int)] 31) = W at *
  refine (C1.out _).mono ?_
  rintro e w1 ⟨v1, rfl, o1, x1⟩
  have X1 := Lib.hid (X0.out.trans x1)
  have B1 := Lib.hid (x1.at B0.out)
  have O1 := Lib.hid o1
  obtain ⟨A1, q1, rfl⟩ : ∃ A q, v1 = .slice A l.length q := by
    rcases o1.2 with ⟨rfl, h0⟩ | ⟨g, cap, cur, rfl, _⟩
    · exact ⟨none, 0, by rw [h0]⟩
    · exact ⟨_, _, rfl⟩
  clear o1 x1
  go_wp2_with fail
  go_loopw [11, 5] (fun i lf wr => ∃ j c : Nat, j ≤ l.length ∧ i = .int .i64 j ∧ lf = .int .i64 c ∧ Hid (si P (l.drop j) j c = si P l 0 0) ∧ Hid (Ext w1 wr)) (fun i _ _ => l.length - (intOf i).toNat)
  case atStart => exact ⟨0, 0, Nat.zero_le _, rfl, rfl, rfl, Ext.refl _⟩
  case round =>
    obtain ⟨j, c, hj, rfl, rfl, HS, HX⟩ := hrel
    by_cases hlt : j < l.length
    · obtain ⟨g, cap, e1, hcell⟩ := new_slice_cell O1.out (by omega)
      injection e1 with e2 e3 e4
      subst e2 e4
      clear e3
      have hget := frs_get (l.map stF) j (stF l[j]) (by rw [List.getElem?_map, List.getElem?_eq_getElem hlt]; rfl)
      have la := HL.out _ (List.getElem_mem hlt)
      have d0 : wr.cell? ⟨g, j * 2, none⟩ = some (.int .i64 (sN l[j] : Nat)) := HX.out.cell (hcell _ _ hget.1)
      have d1 : wr.cell? ⟨g, j * 2 + 1, none⟩ = some (.int .i64 (sD l[j] : Nat)) := HX.out.cell (hcell _ _ hget.2)
      have h0 : (0 : Int) ≤ j := by omega
      have h1 : (j : Int) < l.length := by omega
      have p20 : 2 ^ l[j].length ≤ 1048576 := Nat.pow_le_pow_right (n := 2) (by omega) la
      have n1 := sN_le l[j]
      have n2 := sD_le l[j]
      have CL := Lib.hid (fun W => mpLess_calls m D (sN l[j]) (sD l[j]) (by omega) (by omega) (Nat.le_trans (Nat.mul_le_mul hm n2) (Nat.le_trans (Nat.mul_le_mul DK p20) (by decide))) (Nat.le_trans (Nat.mul_le_mul n1 DK) (Nat.le_trans (Nat.mul_le_mul_right _ p20) (by decide))) W)
      rw [HLE.out _ la] at CL
      have ST : Hid (si P (l.drop j) j c = si P (l.drop (j + 1)) (j + 1) (if plA l[j] ≤ P then j else c)) := by
        show _ = _
        rw [List.drop_eq_getElem_cons hlt]; rfl
      generalize sN l[j] = sn at *
      generalize sD l[j] = sd at *
      clear hget hcell p20 n1 n2 la
      have NB := Lib.hid (((HX.out.at B1.out)))
      obtain ⟨c0, c1⟩ := cells_of (((Ext.refl wr).alloc (.cells #[.int .i64 (sn : Nat), .int .i64 (sd : Nat)] 31)).at NB.out)
      obtain ⟨c2, c3⟩ := cells_of (heap_alloc_new wr (.cells #[.int .i64 (sn : Nat), .int .i64 (sd : Nat)] 31))
      have XL := Lib.hid (HX.out.alloc (.cells #[.int .i64 (sn : Nat), .int .i64 (sd : Nat)] 31))
      by_cases hp : plA l[j] ≤ P
      · rw [if_pos hp] at ST
        rw [decide_eq_false (by omega)] at CL
        have HS2 := Lib.hid (ST.out.symm.trans HS.out)
        clear hp
        go_wp2_with fail
        refine (CL.out _).mono ?_
        rintro e w2 ⟨rfl, x2⟩
        have X2 := Lib.hid (XL.out.trans x2)
        clear x2
        go_wp2_with fail
        exact ⟨⟨j + 1, j, by omega, by go_num, rfl, HS2.out, X2.out⟩, by simp [intOf]; omega⟩
      · rw [if_neg hp] at ST
        rw [decide_eq_true (by omega)] at CL
        have HS2 := Lib.hid (ST.out.symm.trans HS.out)
        clear hp
        go_wp2_with fail
        refine (CL.out _).mono ?_
        rintro e w2 ⟨rfl, x2⟩
        have X2 := Lib.hid (XL.out.trans x2)
        clear x2
        go_wp2_with fail
        exact ⟨⟨j + 1, c, by omega, by go_num, rfl, HS2.out, X2.out⟩, by simp [intOf]; omega⟩
    · have h1 : (l.length : Int) ≤ j := by omega
      obtain rfl : j = l.length := by omega
      have HS2 : Hid (si P l 0 0 = c) := by show _ = _; rw [← HS.out, List.drop_length]; rfl
      go_wp2_with fail
      go_ret
      exact ⟨by rw [HS2.out]; rfl, X1.out.trans HX.out⟩
end Go.Proofs.YtgnepbogadfinaaDoor.N
