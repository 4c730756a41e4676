import Derived.Test.YtgnepbogadfinaaXa9
import Derived.Test.YtgnepbogadfinaaXa10
/- A part of the proof: lemmas that later parts use. -/
set_option linter.unusedVariables false
set_option linter.unusedSimpArgs false
namespace Go.Proofs.Ytgnepbogadfinaa.N
open Go.RowKit
def stT : Nat → Nat → List UInt8 → Tr
  | 0, _, _ => .leaf
  | f + 1, p, a => if p ≤ plA a ∨ plA a + part a.length ≤ p then .leaf else .node (stT f p (a ++ [48])) (stT f p (a ++ [49]))
theorem plA_snoc (a : List UInt8) (c : UInt8) : plA (a ++ [c]) = plA a + if c = 49 then part (a.length + 1) else 0 := by
  unfold plA
  rw [List.length_append, List.length_singleton, plI, plI_append _ _ _ (Nat.le_refl _), List.getElem?_append_right (Nat.le_refl _), Nat.sub_self]
  simp
theorem plA_mod : ∀ (n : Nat) (a : List UInt8), a.length = n → n ≤ 40 → plA a % part n = 0
  | 0, a, h, _ => by
    rw [List.eq_nil_of_length_eq_zero h]; rfl
  | n + 1, a, h, hn => by
    have hne : a ≠ [] := fun e => by simp [e] at h
    rw [← List.dropLast_concat_getLast hne, plA_snoc]
    have hl : a.dropLast.length = n := by rw [List.length_dropLast, h]; rfl
    have := plA_mod n a.dropLast hl (by omega)
    rw [part_step (show n < 40 by omega)] at this
    have := Nat.mod_eq_zero_of_dvd (Nat.dvd_trans (Nat.dvd_mul_right _ 2) (Nat.dvd_of_mod_eq_zero this))
    split
    · rw [hl, Nat.add_mod_right]; exact this
    · exact this
theorem stT_zero {p : Nat} {a : List UInt8} (ha : a.length ≤ 40) (hp : p % part a.length = 0) : p ≤ plA a ∨ plA a + part a.length ≤ p := by
  have h2 := plA_mod a.length a rfl ha
  have h3 : 0 < part a.length := Nat.two_pow_pos _
  generalize part a.length = d at *
  obtain ⟨x, rfl⟩ := Nat.dvd_of_mod_eq_zero hp
  obtain ⟨y, hy⟩ := Nat.dvd_of_mod_eq_zero h2
  rw [hy]
  rcases Nat.lt_or_ge y x with h | h
  · right
    have := Nat.mul_le_mul_left d (show y + 1 ≤ x from h)
    rw [Nat.mul_add, Nat.mul_one] at this
    exact this
  · left; exact Nat.mul_le_mul_left d h
set_option maxHeartbeats 3200000 in
set_option maxRecDepth 100000 in
theorem starting_calls (p : Nat) (hp : p ≤ 1099511627776) : ∀ (f : Nat) (a : List UInt8) (s : ByteArray) (w : World), s = S a → a.length + f ≤ 39 → p % part (a.length + f) = 0 →
    Calls Try.prog 20 #[.int .i64 p, .string s] w (GivesT w (stT f p a)) := by
  have end_ : ∀ (a : List UInt8) (s : ByteArray) (w : World), s = S a → a.length ≤ 39 → (p ≤ plA a ∨ plA a + part a.length ≤ p) → Calls Try.prog 20 #[.int .i64 p, .string s] w (GivesT w .leaf) := by
    intro a s w hs ha hc
    have PA := Lib.hid (fun W => placeOf_calls a (by omega) W)
    have PM := part_mul (show a.length ≤ 40 by omega)
    have hb := plI_le a a.length (by omega)
    have hz : s.size = a.length := by subst hs; exact S_size a
    have ml : min s.size 64 = s.size := by omega
    have q : (1099511627776 : Int) / 2 ^ s.size = ((part a.length : Nat) : Int) := by
      rw [hz]
      refine Int.ediv_eq_of_eq_mul_right (by have := Nat.two_pow_pos a.length; have : (2 : Int) ^ a.length = ((2 ^ a.length : Nat) : Int) := by { rw [Int.natCast_pow]; rfl }
                                             omega) ?_
      rw [show (2 : Int) ^ a.length = ((2 ^ a.length : Nat) : Int) by rw [Int.natCast_pow]; rfl, ← Int.natCast_mul, PM]; rfl
    have g1 : part a.length ≤ 1099511627776 := by rw [← PM]; exact Nat.le_mul_of_pos_left _ (Nat.two_pow_pos _)
    have g0 : 0 < part a.length := Nat.two_pow_pos _
    rw [← hs] at PA
    unfold plA at hc
    have hpl : plI a a.length ≤ 1099511627776 := by omega
    generalize plI a a.length = st at *
    generalize part a.length = pt at *
    have z : s.size < 40 := by omega
    clear hs PM hz hb ha
    by_cases h1 : p ≤ st
    · have h1' : (p : Int) ≤ st := by omega
      go_enter Try.func20, Try.ntmps20
      go_wp2_with fail
      refine (PA.out _).mono ?_
      rintro e w1 ⟨rfl, rfl⟩
      go_wp2_with fail
      go_ret
      exact ⟨none, rfl, rfl, Ext.refl _⟩
    · have h1' : (st : Int) < p := by omega
      have h2' : (st : Int) + pt ≤ p := by omega
      go_enter Try.func20, Try.ntmps20
      go_wp2_with fail
      refine (PA.out _).mono ?_
      rintro e w1 ⟨rfl, rfl⟩
      go_wp2_with fail
      go_ret
      exact ⟨none, rfl, rfl, Ext.refl _⟩
  intro f
  induction f with
  | zero =>
    intro a s w hs ha hm
    exact end_ a s w hs (by omega) (stT_zero (by omega) hm)
  | succ f ih =>
    intro a s w hs ha hm
    unfold stT
    by_cases hc : p ≤ plA a ∨ plA a + part a.length ≤ p
    · rw [if_pos hc]
      exact end_ a s w hs (by omega) hc
    · rw [if_neg hc]
      have PA := Lib.hid (fun W => placeOf_calls a (by omega) W)
      have PM := part_mul (show a.length ≤ 40 by omega)
      have hb := plI_le a a.length (by omega)
      have hz : s.size = a.length := by subst hs; exact S_size a
      have ml : min s.size 64 = s.size := by omega
      have q : (1099511627776 : Int) / 2 ^ s.size = ((part a.length : Nat) : Int) := by
        rw [hz]
        refine Int.ediv_eq_of_eq_mul_right (by have := Nat.two_pow_pos a.length; have : (2 : Int) ^ a.length = ((2 ^ a.length : Nat) : Int) := by { rw [Int.natCast_pow]; rfl }
                                               omega) ?_
        rw [show (2 : Int) ^ a.length = ((2 ^ a.length : Nat) : Int) by rw [Int.natCast_pow]; rfl, ← Int.natCast_mul, PM]; rfl
      have g1 : part a.length ≤ 1099511627776 := by rw [← PM]; exact Nat.le_mul_of_pos_left _ (Nat.two_pow_pos _)
      have e0 : s ++ ⟨#[48]⟩ = S (a ++ [48]) := by subst hs; exact S_append a [48]
      have e1 : s ++ ⟨#[49]⟩ = S (a ++ [49]) := by subst hs; exact S_append a [49]
      have le48 : (a ++ [(48 : UInt8)]).length + f = a.length + (f + 1) := by simp; omega
      have le49 : (a ++ [(49 : UInt8)]).length + f = a.length + (f + 1) := by simp; omega
      have C0 := Lib.hid (fun W => ih (a ++ [48]) _ W e0 (by simp; omega) (by rw [le48]; exact hm))
      have C1 := Lib.hid (fun W => ih (a ++ [49]) _ W e1 (by simp; omega) (by rw [le49]; exact hm))
      rw [e0] at C0
      rw [e1] at C1
      generalize stT f p (a ++ [48]) = L at *
      generalize stT f p (a ++ [49]) = R at *
      rw [← hs] at PA
      unfold plA at hc
      generalize plI a a.length = st at *
      generalize part a.length = pt at *
      have h1 : (st : Int) < p := by omega
      have h2 : (p : Int) < (st : Int) + pt := by omega
      have z : s.size < 40 := by omega
      have z1 : (9223372036854775807 < s.size + 1) = False := eq_false (by omega)
      clear hs PM hz hb ha ih hm end_ hc le48 le49
      go_enter Try.func20, Try.ntmps20
      go_wp2_with fail
      refine (PA.out _).mono ?_
      rintro e w1 ⟨rfl, rfl⟩
      go_wp2_with fail
      refine (C0.out _).mono ?_
      rintro e w2 ⟨p0, rfl, r0, x0⟩
      have R0 := Lib.hid r0
      have X0 := Lib.hid x0
      clear r0 x0
      go_wp2_with fail
      refine (C1.out _).mono ?_
      rintro e w3 ⟨p1, rfl, r1, x1⟩
      have R1 := Lib.hid r1
      have X1 := Lib.hid x1
      clear r1 x1
      go_wp2_with fail
      go_ret
      exact ⟨_, rfl, Rep.made (R0.out.ext X1.out) R1.out, (X0.out.trans X1.out).alloc _⟩
theorem filt_step (P : List UInt8 → Bool) {l : List (List UInt8)} {k : Nat} {a : List UInt8} (h : l[k]? = some a) : ((l.take (k + 1)).filter P).length = ((l.take k).filter P).length + if P a then 1 else 0 := by
  rw [List.take_add_one, h, List.filter_append, List.length_append]
  simp only [Option.toList_some, List.filter_cons, List.filter_nil]
  split <;> rfl
def frT (p : Nat) (l : List (List UInt8)) : Nat := (l.filter fun a => decide (plA a < p)).length
def bhT (p : Nat) (l : List (List UInt8)) : Nat := (l.filter fun a => decide (p < plA a)).length
set_option maxHeartbeats 3200000 in
set_option maxRecDepth 100000 in
theorem sides_calls (T : Tr) (hT : T.carets ≤ 39) (p : Nat) (hp : p ≤ 1099511627776) (pa : Option Addr) (w : World) (ra : Rep w T pa) :
    Calls Try.prog 22 #[.pointer pa, .int .i64 p] w fun e w' => e = .returned (.tuple #[.int .i64 (frT p (addrs T []) : Nat), .int .i64 (bhT p (addrs T []) : Nat)]) ∧ Ext w w' := by
  have C1 := Lib.hid (fun W (h : Ext w W) => addresses_calls T [] ⟨#[]⟩ pa W (by omega) (by simp; omega) rfl (ra.ext h))
  have LA := addrs_length T []
  have DA : Hid (∀ x ∈ addrs T [], x.length ≤ 40) := fun x hx => by have := addrs_depth T [] x hx; have := T.depth_le; simp at *; omega
  have LL : (addrs T []).length ≤ 40 := by omega
  generalize addrs T [] = la at *
  clear LA ra hT
  go_enter Try.func22, Try.ntmps22
  go_wp2_with fail
  refine (C1.out _ (Ext.refl _)).mono ?_
  rintro e w1 ⟨v1, rfl, o1, x1⟩
  obtain ⟨A1, q1, rfl, _, _⟩ := o1.reads
  rw [sls_length] at o1 ⊢
  have X1 := Lib.hid x1
  have R1 := Lib.hid o1.reads
  clear o1 x1
  go_wp2_with fail
  go_loop [14, 6, 7] (fun i f b => ∃ k : Nat, k ≤ la.length ∧ i = .int .i64 k ∧ f = .int .i64 (frT p (la.take k) : Nat) ∧ b = .int .i64 (bhT p (la.take k) : Nat)) (fun i _ _ => la.length - (intOf i).toNat)
  case atStart => exact ⟨0, Nat.zero_le _, rfl, rfl, rfl⟩
  case round =>
    obtain ⟨k, hk, rfl, rfl, rfl⟩ := hrel
    have F1 : frT p (la.take k) ≤ 40 := by unfold frT; have := List.length_filter_le (fun a => decide (plA a < p)) (la.take k); rw [List.length_take] at this; omega
    have F2 : bhT p (la.take k) ≤ 40 := by unfold bhT; have := List.length_filter_le (fun a => decide (p < plA a)) (la.take k); rw [List.length_take] at this; omega
    by_cases hlt : k < la.length
    · obtain ⟨Ax, cx, e1, _, rd⟩ := R1.out
      rw [sls_length] at rd e1
      obtain ⟨ad, e2, ca⟩ := rd (by omega)
      injection e1 with e3 e4 e5
      subst e3 e5
      subst e2
      clear e4
      have c1 := ca k _ (sls_get la k hlt)
      have PA := Lib.hid (fun W => placeOf_calls la[k] (DA.out _ (List.getElem_mem hlt)) W)
      have S1 : frT p (la.take (k + 1)) = frT p (la.take k) + if plI la[k] la[k].length < p then 1 else 0 := by
        have := filt_step (fun a => decide (plA a < p)) (List.getElem?_eq_getElem hlt)
        simp only [decide_eq_true_eq] at this
        exact this
      have S2 : bhT p (la.take (k + 1)) = bhT p (la.take k) + if p < plI la[k] la[k].length then 1 else 0 := by
        have := filt_step (fun a => decide (p < plA a)) (List.getElem?_eq_getElem hlt)
        simp only [decide_eq_true_eq] at this
        exact this
      have h0 : (0 : Int) ≤ k := by omega
      have h1 : (k : Int) < la.length := by omega
      generalize la[k] = xa at *
      generalize plI xa xa.length = na at *
      generalize frT p (la.take k) = f at *
      generalize bhT p (la.take k) = b at *
      by_cases g1 : na < p
      · have g1' : (na : Int) < p := by omega
        rw [if_pos g1] at S1
        rw [if_neg (by omega)] at S2
        have HS := Lib.hid (And.intro S1 S2)
        clear S1 S2
        go_wp2_with fail
        refine (PA.out _).mono ?_
        rintro e w2 ⟨rfl, rfl⟩
        go_wp2_with fail
        exact ⟨⟨k + 1, by omega, by go_num, by rw [HS.out.1]; go_num, by rw [HS.out.2]; rfl⟩, by simp [intOf]; omega⟩
      · rw [if_neg g1] at S1
        by_cases g2 : p < na
        · have g2' : (p : Int) < na := by omega
          have g3' : (p : Int) ≤ na := by omega
          rw [if_pos g2] at S2
          have HS := Lib.hid (And.intro S1 S2)
          clear S1 S2
          go_wp2_with fail
          refine (PA.out _).mono ?_
          rintro e w2 ⟨rfl, rfl⟩
          go_wp2_with fail
          exact ⟨⟨k + 1, by omega, by go_num, by rw [HS.out.1]; rfl, by rw [HS.out.2]; go_num⟩, by simp [intOf]; omega⟩
        · rw [if_neg g2] at S2
          obtain rfl : na = p := by omega
          have HS := Lib.hid (And.intro S1 S2)
          clear S1 S2
          go_wp2_with fail
          refine (PA.out _).mono ?_
          rintro e w2 ⟨rfl, rfl⟩
          go_wp2_with fail
          exact ⟨⟨k + 1, by omega, by go_num, by rw [HS.out.1]; rfl, by rw [HS.out.2]; rfl⟩, by simp [intOf]; omega⟩
    · have h1 : (la.length : Int) ≤ k := by omega
      obtain rfl : k = la.length := by omega
      rw [List.take_length] at F1 F2 ⊢
      go_wp2_with fail
      exact bodyPost_ret (v := .tuple #[.int .i64 (frT p la : Nat), .int .i64 (bhT p la : Nat)]) (by simp [results, Try.results22, go_sem]) rfl ⟨rfl, X1.out⟩
def padT (T : Tr) (f l : Nat) : Tr := T.grown (fun i => if i = 0 then comb f else if i = T.carets then comb l else .leaf) 0
set_option maxHeartbeats 1600000 in
theorem padClo (N f n l : Nat) (a b c : Nat) (w : World) (hf : f < 1000000) (hl : l < 1000000) (hn : n < 1000000000) (hn1 : 1 ≤ n) (hN : N < 1000000000) (h0 : w.cell? ⟨a, 0, none⟩ = some (.int .i64 f)) (h1 : w.cell? ⟨b, 0, none⟩ = some (.int .i64 n)) (h2 : w.cell? ⟨c, 0, none⟩ = some (.int .i64 l)) :
    Clo w N (fun i => if i = 0 then comb f else if i = n - 1 then comb l else .leaf) 57 #[.pointer (some ⟨a, 0, none⟩), .pointer (some ⟨b, 0, none⟩), .pointer (some ⟨c, 0, none⟩)] := by
  refine ⟨run_of Try.func57 (by kernel_rfl) (by kernel_rfl), fun k hk w' hx => ?_⟩
  have h0 := hx.cell h0
  have h1 := hx.cell h1
  have h2 := hx.cell h2
  have CF := Lib.hid (fun W => rightComb_calls f hf W)
  have CL := Lib.hid (fun W => rightComb_calls l hl W)
  clear hx
  show Calls Try.prog 57 #[.int .i64 k, .pointer (some ⟨a, 0, none⟩), .pointer (some ⟨b, 0, none⟩), .pointer (some ⟨c, 0, none⟩)] w' (GivesT w' (if k = 0 then comb f else if k = n - 1 then comb l else .leaf))
  generalize comb f = F at *
  generalize comb l = L at *
  by_cases he : k = 0
  · subst he
    rw [if_pos rfl]
    go_enter Try.func57, Try.ntmps57
    go_wp2_with fail
    refine (CF.out _).mono ?_
    rintro e w1 ⟨p, rfl, r1, x1⟩
    have R1 := Lib.hid (And.intro r1 x1)
    clear r1 x1
    go_wp2_with fail
    go_ret
    exact ⟨p, rfl, R1.out.1, R1.out.2⟩
  · rw [if_neg he]
    have t0 : ((k : Int) == (0 : Int)) = false := by rw [beq_eq_false_iff_ne]; omega
    by_cases h : k = n - 1
    · rw [if_pos h]
      have t1 : ((k : Int) == ((n : Int) - 1)) = true := by rw [beq_iff_eq]; omega
      go_enter Try.func57, Try.ntmps57
      go_wp2_with fail
      refine (CL.out _).mono ?_
      rintro e w1 ⟨p, rfl, r1, x1⟩
      have R1 := Lib.hid (And.intro r1 x1)
      clear r1 x1
      go_wp2_with fail
      go_ret
      exact ⟨p, rfl, R1.out.1, R1.out.2⟩
    · rw [if_neg h]
      have t1 : ((k : Int) == ((n : Int) - 1)) = false := by rw [beq_eq_false_iff_ne]; omega
      go_enter Try.func57, Try.ntmps57
      go_wp2_with fail
      go_ret
      exact ⟨none, rfl, rfl, Ext.refl _⟩
theorem one_cell {w : World} {b : Nat} {u : Value} {t : TypeId} (h : w.heap[b]? = some (.cells #[u] t)) : w.cell? ⟨b, 0, none⟩ = some u ∧ w.frozen? ⟨b, 0, none⟩ = false := by
  constructor <;> simp [World.cell?, World.frozen?, h]
set_option maxHeartbeats 1600000 in
set_option maxRecDepth 100000 in
theorem padded_calls (T : Tr) (f l : Nat) (hT : T.carets < 1000000) (hf : f < 1000000) (hl : l < 1000000) (p : Option Addr) (w : World) (ht : Rep w T p) :
    Calls Try.prog 23 #[.pointer p, .int .i64 f, .int .i64 l] w (GivesT w (padT T f l)) := by
  have XX := Lib.hid (((Ext.refl w).alloc (.cells #[.int .i64 f] 3)).alloc (.cells #[.int .i64 l] 3))
  have cf : Hid (((w.alloc (.cells #[.int .i64 f] 3)).alloc (.cells #[.int .i64 l] 3)).cell? ⟨w.heap.size, 0, none⟩ = some (.int .i64 f)) := by show _ = _; go_simp
  have cl : Hid (((w.alloc (.cells #[.int .i64 f] 3)).alloc (.cells #[.int .i64 l] 3)).cell? ⟨w.heap.size + 1, 0, none⟩ = some (.int .i64 l)) := by show _ = _; go_simp
  have HT := Lib.hid (ht.ext XX.out)
  have CC := Lib.hid (fun W (h : Ext ((w.alloc (.cells #[.int .i64 f] 3)).alloc (.cells #[.int .i64 l] 3)) W) => leaves_calls T p W (by omega) (HT.out.ext h))
  clear ht
  go_enter Try.func23, Try.ntmps23
  go_wp2_with fail
  generalize (w.alloc (.cells #[.int .i64 f] 3)).alloc (.cells #[.int .i64 l] 3) = W at *
  refine (CC.out _ (Ext.refl _)).mono ?_
  rintro e w1 ⟨rfl, n1, rfl⟩
  dsimp only
  have X1 := (Ext.refl W).drewN n1
  generalize W.drewN n1 = W2 at *
  have XA := (Ext.refl W2).alloc (.cells #[.int .i64 0] 3)
  have XB := XA.setCell (p := ⟨W2.heap.size, 0, none⟩) (Nat.le_refl _) (.int .i64 ((T.carets : Int) + 1))
  have bn : ((T.carets : Int) + 1) = ((T.carets + 1 : Nat) : Int) := by omega
  have a0 := heap_alloc_new W2 (.cells #[.int .i64 0] 3)
  have k0 : (W2.alloc (.cells #[.int .i64 0] 3)).cell? ⟨W2.heap.size, 0, none⟩ = some (.int .i64 0) := (one_cell a0).1
  have f0 : (W2.alloc (.cells #[.int .i64 0] 3)).frozen? ⟨W2.heap.size, 0, none⟩ = false := (one_cell a0).2
  have cn : ((W2.alloc (.cells #[.int .i64 0] 3)).setCell ⟨W2.heap.size, 0, none⟩ (.int .i64 ((T.carets : Int) + 1))).cell? ⟨W2.heap.size, 0, none⟩ = some (.int .i64 ((T.carets + 1 : Nat) : Int)) := by
    rw [← bn]
    exact (one_cell (heap_setCell_same _ _ 0 #[.int .i64 0] 3 (.int .i64 ((T.carets : Int) + 1)) a0)).1
  generalize hW3 : W2.alloc (.cells #[.int .i64 0] 3) = W3 at *
  generalize hg : W2.heap.size = g at *
  have CL := Lib.hid (padClo (T.carets + 1) f (T.carets + 1) l w.heap.size g (w.heap.size + 1) (W3.setCell ⟨g, 0, none⟩ (.int .i64 ((T.carets : Int) + 1))) hf hl (by omega) (by omega) (by omega) (XB.cell (X1.cell cf.out)) cn (XB.cell (X1.cell cl.out)))
  have HT := Lib.hid (HT.out.ext (X1.trans XB))
  have XX := Lib.hid (XX.out.trans (X1.trans XB))
  have CG := Lib.hid (fun F cap (hC : Clo (W3.setCell ⟨g, 0, none⟩ (.int .i64 ((T.carets : Int) + 1))) (T.carets + 1) (fun i => if i = 0 then comb f else if i = T.carets + 1 - 1 then comb l else .leaf) F cap) => grown_calls (fun i => if i = 0 then comb f else if i = T.carets + 1 - 1 then comb l else .leaf) (T.carets + 1) F cap T p 0 _ (by omega) (by omega) HT.out hC)
  clear X1 XA XB cf cl CC cn
  go_wp2_with fail
  simp [Oper.wp, Oper.upon, go_sem, k0, f0]
  clear k0 f0 a0 hW3 hg bn
  go_wp2_with fail
  refine (CG.out _ _ CL.out).mono ?_
  rintro e w' ⟨q, rfl, hq, hx⟩
  have HQ := Lib.hid (And.intro hq (XX.out.trans hx))
  clear hq hx
  go_wp2_with fail
  go_ret
  exact ⟨q, rfl, HQ.out.1, HQ.out.2⟩
theorem grown_carets_le (h : Nat → Tr) (c : Nat) (hc : ∀ i, (h i).carets ≤ c) : ∀ (T : Tr) (k : Nat), (T.grown h k).carets ≤ T.carets + (T.carets + 1) * c
  | .leaf, k => by simp only [Tr.grown, Tr.carets]; have := hc k; omega
  | .node l r, k => by
    simp only [Tr.grown, Tr.carets]
    have h1 := grown_carets_le h c hc l k
    have h2 := grown_carets_le h c hc r (k + (l.carets + 1))
    have e : (1 + l.carets + r.carets + 1) * c = (l.carets + 1) * c + (r.carets + 1) * c := by rw [← Nat.add_mul]; congr 1; omega
    rw [e]
    omega
theorem frT_le (p : Nat) (l : List (List UInt8)) : frT p l ≤ l.length := List.length_filter_le _ _
theorem bhT_le (p : Nat) (l : List (List UInt8)) : bhT p l ≤ l.length := List.length_filter_le _ _
theorem stT_small : ∀ (f p : Nat) (a : List UInt8), a.length + f ≤ 40 → (stT f p a).carets ≤ f
  | 0, _, _, _ => Nat.le_refl _
  | f + 1, p, a, h => by
    unfold stT
    split
    · exact Nat.zero_le _
    · rename_i hc
      have one : ∀ b : List UInt8, b.length = a.length + 1 → (p ≤ plA b ∨ plA b + part b.length ≤ p) → (stT f p b).carets = 0 := by
        intro b hb hb'
        cases f with
        | zero => rfl
        | succ f => unfold stT; rw [if_pos hb']; rfl
      have e0 := plA_zero a
      have e1 := plA_one a
      have h0 := stT_small f p (a ++ [48]) (by simp; omega)
      have h1 := stT_small f p (a ++ [49]) (by simp; omega)
      simp only [Tr.carets]
      by_cases hp : plA a + part (a.length + 1) ≤ p
      · have := one (a ++ [48]) (by simp) (.inr (by rw [e0, show (a ++ [(48 : UInt8)]).length = a.length + 1 by simp]; exact hp))
        omega
      · have := one (a ++ [49]) (by simp) (.inl (by rw [e1]; omega))
        omega
def carP (p q : Nat) : Tr × Tr :=
  let a := stT 10 p []
  let b := stT 10 q []
  let la := addrs a []
  let lb := addrs b []
  (padT a (frT q lb - frT p la) (bhT q lb - bhT p la), padT b (frT p la - frT q lb) (bhT p la - bhT q lb))
theorem padT_le (T : Tr) (f l : Nat) (h : T.carets ≤ 10) (hf : f ≤ 11) (hl : l ≤ 11) : (padT T f l).carets < 1000 := by
  have := grown_carets_le (fun i => if i = 0 then comb f else if i = T.carets then comb l else .leaf) 11 (fun i => by
    split
    · rw [comb_carets]; exact hf
    · split
      · rw [comb_carets]; exact hl
      · exact Nat.zero_le _) T 0
  unfold padT
  have := Nat.mul_le_mul_right 11 (show T.carets + 1 ≤ 11 by omega)
  omega
set_option maxHeartbeats 6400000 in
set_option maxRecDepth 100000 in
theorem CarrierOf_yes (m1 k1 m2 k2 : Nat) (h1 : k1 ≤ 10) (hm1 : m1 ≤ 2 ^ k1) (h2 : k2 ≤ 10) (hm2 : m2 ≤ 2 ^ k2) (g1 : (goodB m1 ((2 ^ k1 : Nat) : Int) && decide ((1 : Int) < ((2 ^ k1 : Nat) : Int))) = true) (g2 : (goodB m2 ((2 ^ k2 : Nat) : Int) && decide ((1 : Int) < ((2 ^ k2 : Nat) : Int))) = true) (w : World) :
    Calls Try.prog 7 #[.agg #[.int .i64 m1, .int .i64 ((2 ^ k1 : Nat) : Int)], .agg #[.int .i64 m2, .int .i64 ((2 ^ k2 : Nat) : Int)]] w fun e w' => e = .returned (ifP (red (carP (m1 * part k1) (m2 * part k2)))) ∧ Ext w w' := by
  have B1 := Lib.hid (fun W => isBetween_calls m1 ((2 ^ k1 : Nat) : Int) W)
  have B2 := Lib.hid (fun W => isBetween_calls m2 ((2 ^ k2 : Nat) : Int) W)
  rw [g1] at B1
  rw [g2] at B2
  have P1 := Lib.hid (fun W => place_calls m1 (2 ^ k1) (part k1) (part_mul (by omega)) hm1 (Nat.two_pow_pos k1) W)
  have P2 := Lib.hid (fun W => place_calls m2 (2 ^ k2) (part k2) (part_mul (by omega)) hm2 (Nat.two_pow_pos k2) W)
  have le1 : m1 * part k1 ≤ 1099511627776 := by rw [← part_mul (show k1 ≤ 40 by omega)]; exact Nat.mul_le_mul_right _ hm1
  have le2 : m2 * part k2 ≤ 1099511627776 := by rw [← part_mul (show k2 ≤ 40 by omega)]; exact Nat.mul_le_mul_right _ hm2
  have md : ∀ m k : Nat, k ≤ 10 → m * part k % part 10 = 0 := fun m k hk => by
    have := part_pow (l := k) (s := 10 - k) (by omega)
    rw [show k + (10 - k) = 10 by omega] at this
    rw [← this, Nat.mul_comm (part 10), ← Nat.mul_assoc]; exact Nat.mul_mod_left _ _
  have S1 := Lib.hid (fun W => starting_calls (m1 * part k1) le1 10 [] ⟨#[]⟩ W rfl (by simp) (by simpa using md m1 k1 h1))
  have S2 := Lib.hid (fun W => starting_calls (m2 * part k2) le2 10 [] ⟨#[]⟩ W rfl (by simp) (by simpa using md m2 k2 h2))
  have ca := stT_small 10 (m1 * part k1) [] (by simp)
  have cb := stT_small 10 (m2 * part k2) [] (by simp)
  unfold carP
  generalize m1 * part k1 = p at *
  generalize m2 * part k2 = q at *
  generalize stT 10 p [] = a at *
  generalize stT 10 q [] = b at *
  have la := addrs_length a []
  have lb := addrs_length b []
  have D1 := Lib.hid (fun pa W r => sides_calls a (by omega) p le1 pa W r)
  have D2 := Lib.hid (fun pb W r => sides_calls b (by omega) q le2 pb W r)
  have f1 := frT_le p (addrs a [])
  have f2 := frT_le q (addrs b [])
  have f3 := bhT_le p (addrs a [])
  have f4 := bhT_le q (addrs b [])
  simp only
  generalize frT p (addrs a []) = f at *
  generalize frT q (addrs b []) = fq at *
  generalize bhT p (addrs a []) = g at *
  generalize bhT q (addrs b []) = i at *
  have Z1 : Hid (∀ (n m : Int) (pa : Option Addr) (W : World), n = ((fq - f : Nat) : Int) → m = ((i - g : Nat) : Int) → Rep W a pa → Calls Try.prog 23 #[.pointer pa, .int .i64 n, .int .i64 m] W (GivesT W (padT a (fq - f) (i - g)))) := by
    rintro _ _ pa W rfl rfl r
    exact padded_calls a (fq - f) (i - g) (by omega) (by omega) (by omega) pa W r
  have Z2 : Hid (∀ (n m : Int) (pb : Option Addr) (W : World), n = ((f - fq : Nat) : Int) → m = ((g - i : Nat) : Int) → Rep W b pb → Calls Try.prog 23 #[.pointer pb, .int .i64 n, .int .i64 m] W (GivesT W (padT b (f - fq) (g - i)))) := by
    rintro _ _ pb W rfl rfl r
    exact padded_calls b (f - fq) (g - i) (by omega) (by omega) (by omega) pb W r
  have c1 := padT_le a (fq - f) (i - g) ca (by omega) (by omega)
  have c2 := padT_le b (f - fq) (g - i) cb (by omega) (by omega)
  generalize padT a (fq - f) (i - g) = A at *
  generalize padT b (f - fq) (g - i) = B at *
  have LE := red_le (A, B)
  simp only at LE
  have R1 := Lib.hid (fun pa pb W ra rb => reduced_calls A B (by omega) (by omega) pa pb W ra rb)
  have R2 := Lib.hid (fun pa pb W => fits_calls (red (A, B)).1 (red (A, B)).2 (by omega) (by omega) pa pb W)
  obtain ⟨s, t, bb, hb⟩ := ifP_two (red (A, B))
  rw [show ((red (A, B)).1, (red (A, B)).2) = red (A, B) from rfl, hb] at R2
  rw [hb]
  generalize (red (A, B)).1 = RA at *
  generalize (red (A, B)).2 = RB at *
  generalize 2 ^ k1 = E1 at *
  generalize 2 ^ k2 = E2 at *
  have Q : Hid (RowKit.wrap64 ((fq : Int) - f) = (fq : Int) - f ∧ RowKit.wrap64 ((i : Int) - g) = (i : Int) - g ∧ RowKit.wrap64 ((f : Int) - fq) = (f : Int) - fq ∧ RowKit.wrap64 ((g : Int) - i) = (g : Int) - i) :=
    ⟨IntWalk.wrap64_in _ (by omega), IntWalk.wrap64_in _ (by omega), IntWalk.wrap64_in _ (by omega), IntWalk.wrap64_in _ (by omega)⟩
  have HN : Hid (f ≤ 11 ∧ fq ≤ 11 ∧ g ≤ 11 ∧ i ≤ 11) := by show _ ∧ _; omega
  obtain ⟨X0, d0, d1, d2, d3, t0⟩ := boxQQ_facts w (.int .i64 (m1 : Int)) (.int .i64 (E1 : Int)) (.int .i64 (m2 : Int)) (.int .i64 (E2 : Int)) (.string ⟨#[]⟩) (.string ⟨#[]⟩) 25 29
  have SX := Lib.hid (And.intro d0 (And.intro d1 (And.intro d2 (And.intro d3 X0))))
  clear h1 hm1 h2 hm2 g1 g2 le1 le2 md ca cb la lb f1 f2 f3 f4 c1 c2 LE hb X0
  go_enter Try.func7, Try.ntmps7
  go_wp2_with fail
  generalize ((w.alloc (.cells #[.int .i64 (m1 : Int), .int .i64 (E1 : Int)] 25)).alloc (.cells #[.int .i64 (m2 : Int), .int .i64 (E2 : Int)] 25)).alloc (.cells #[.string ⟨#[]⟩, .string ⟨#[]⟩] 29) = W at *
  refine (B1.out _).mono ?_
  rintro e w1 ⟨rfl, x1⟩
  dsimp only
  have SX := Lib.hid (quad_ext SX.out x1)
  have T1 := Lib.hid (t0.ext x1)
  obtain ⟨d0, d1, d2, d3, _⟩ := SX.out
  clear x1 t0
  go_wp2_with fail
  refine (B2.out _).mono ?_
  rintro e w2 ⟨rfl, x2⟩
  dsimp only
  have SX := Lib.hid (quad_ext SX.out x2)
  have T2 := Lib.hid (T1.out.ext x2)
  obtain ⟨d0, d1, d2, d3, _⟩ := SX.out
  clear x2
  go_wp2_with fail
  go_region_held3 (fun w' => w'.cell? ⟨w.heap.size, 0, none⟩ = some (.int .i64 (m1 : Int)) ∧ w'.cell? ⟨w.heap.size, 1, none⟩ = some (.int .i64 (E1 : Int)) ∧ w'.cell? ⟨w.heap.size + 1, 0, none⟩ = some (.int .i64 (m2 : Int)) ∧ w'.cell? ⟨w.heap.size + 1, 1, none⟩ = some (.int .i64 (E2 : Int)) ∧ Ext w w')
    (first | with_reducible exact quad_ext SX.out (Ext.refl _).drew | with_reducible exact quad_ext SX.out z4 | with_reducible exact quad_ext SX.out z3 | with_reducible exact quad_ext SX.out z2 | with_reducible exact quad_ext SX.out z1 | fail)
    (first
      | (go_at_call_of 21 (Value.agg #[.int .i64 (m1 : Int), .int .i64 (E1 : Int)]); refine (P1.out _).mono ?_; rintro e v1 ⟨rfl, y1⟩; have z1 : Ext w2 v1 := (Ext.refl w2).drew.trans y1)
      | (go_at_call_of 20 (Value.int .i64 (p : Int)); refine (S1.out _).mono ?_; rintro e v2 ⟨pa, rfl, ra, y2⟩; have z2 := z1.trans y2)
      | (go_at_call_of 21 (Value.agg #[.int .i64 (m2 : Int), .int .i64 (E2 : Int)]); refine (P2.out _).mono ?_; rintro e v3 ⟨rfl, y3⟩; have z3 := z2.trans y3)
      | (go_at_call_of 20 (Value.int .i64 (q : Int)); refine (S2.out _).mono ?_; rintro e v4 ⟨pb, rfl, rb, y4⟩; have z4 := z3.trans y4)
      | fail)
  have SX := Lib.hid (quad_ext SX.out z4)
  have T3 := Lib.hid (T2.out.ext z4)
  have RA' := Lib.hid (ra.ext (y3.trans y4))
  have RB' := Lib.hid rb
  obtain ⟨d0, d1, d2, d3, _⟩ := SX.out
  clear z1 z2 z3 z4 y1 y2 y3 y4 ra rb
  go_wp2_with fail
  refine (P1.out _).mono ?_
  rintro e w5 ⟨rfl, x5⟩
  dsimp only
  have SX := Lib.hid (quad_ext SX.out x5)
  have T5 := Lib.hid (T3.out.ext x5)
  have RA' := Lib.hid (RA'.out.ext x5)
  have RB' := Lib.hid (RB'.out.ext x5)
  obtain ⟨d0, d1, d2, d3, _⟩ := SX.out
  clear x5
  go_wp2_with fail
  refine (D1.out _ _ RA'.out).mono ?_
  rintro e w6 ⟨rfl, x6⟩
  dsimp only
  have SX := Lib.hid (quad_ext SX.out x6)
  have T6 := Lib.hid (T5.out.ext x6)
  have RA' := Lib.hid (RA'.out.ext x6)
  have RB' := Lib.hid (RB'.out.ext x6)
  obtain ⟨d0, d1, d2, d3, _⟩ := SX.out
  clear x6
  go_wp2_with fail
  refine (P2.out _).mono ?_
  rintro e w7 ⟨rfl, x7⟩
  dsimp only
  have SX := Lib.hid (quad_ext SX.out x7)
  have T7 := Lib.hid (T6.out.ext x7)
  have RA' := Lib.hid (RA'.out.ext x7)
  have RB' := Lib.hid (RB'.out.ext x7)
  obtain ⟨d0, d1, d2, d3, _⟩ := SX.out
  clear x7
  go_wp2_with fail
  refine (D2.out _ _ RB'.out).mono ?_
  rintro e w8 ⟨rfl, x8⟩
  dsimp only
  have SX := Lib.hid (quad_ext SX.out x8)
  have T8 := Lib.hid (T7.out.ext x8)
  have RA' := Lib.hid (RA'.out.ext x8)
  have RB' := Lib.hid (RB'.out.ext x8)
  have X8 := Lib.hid SX.out.2.2.2.2
  clear x8 d0 d1 d2 d3
  go_wp2_with fail
  all_goals (
    refine (Z1.out _ _ pa _ (by obtain ⟨q1, q2, q3, q4⟩ := Q.out; have := HN.out; omega) (by obtain ⟨q1, q2, q3, q4⟩ := Q.out; have := HN.out; omega) RA'.out).mono ?_
    rintro e w9 ⟨pA, rfl, rA, x9⟩
    dsimp only
    have T9 := Lib.hid (T8.out.ext x9)
    have RB' := Lib.hid (RB'.out.ext x9)
    have RAA := Lib.hid rA
    have X9 := Lib.hid (X8.out.trans x9)
    clear x9 rA
    go_wp2_with fail
    all_goals (
      refine (Z2.out _ _ pb _ (by obtain ⟨q1, q2, q3, q4⟩ := Q.out; have := HN.out; omega) (by obtain ⟨q1, q2, q3, q4⟩ := Q.out; have := HN.out; omega) RB'.out).mono ?_
      rintro e w10 ⟨pB, rfl, rB, x10⟩
      dsimp only
      have xx := (Ext.refl w10).alloc (.cells #[.pointer pA, .pointer pB] 57)
      have T10 := Lib.hid (T9.out.ext (x10.trans xx))
      have RAA := Lib.hid (RAA.out.ext (x10.trans xx))
      have RBB := Lib.hid (rB.ext xx)
      have X10 := Lib.hid (X9.out.trans (x10.trans xx))
      have NB := Lib.hid (heap_alloc_new w10 (.cells #[.pointer pA, .pointer pB] 57))
      obtain ⟨c0, c1⟩ := cells_of NB.out
      clear x10 rB xx
      go_wp2_with fail
      generalize w10.alloc (.cells #[.pointer pA, .pointer pB] 57) = W10 at *
      refine (R1.out pA pB _ RAA.out RBB.out).mono ?_
      rintro e w11 ⟨p1, p2, rfl, r1, r2, x11⟩
      dsimp only
      have X11 := Lib.hid (X10.out.trans x11)
      have T11 := Lib.hid (T10.out.ext x11)
      have RP1 := Lib.hid r1
      have RP2 := Lib.hid r2
      clear r1 r2 x11 c0 c1
      go_wp2_with fail
      refine (R2.out p1 p2 _ RP1.out RP2.out).mono ?_
      rintro e w12 ⟨rfl, x12⟩
      dsimp only
      have X12 := Lib.hid (X11.out.trans x12)
      have T12 := T11.out.ext x12
      obtain ⟨u, v, k0, k1, f0, f1⟩ := T12.facts
      have T12 := Lib.hid T12
      clear x12
      go_wp2_with fail
      have HH := set2_heap T12.out (.string s) (.string t)
      have XX := X12.out.set2 (g := w.heap.size + 1 + 1) (by omega) (.string s) (.string t)
      change bodyPost _ _ _ _ _ (N.set2 _ (w.heap.size + 1 + 1) (.string s) (.string t))
      obtain ⟨hc0, hc1⟩ := cells_of HH
      generalize N.set2 _ (w.heap.size + 1 + 1) (.string s) (.string t) = W13 at *
      exact bodyPost_ret (v := .tuple #[.agg #[.string s, .string t], .bool bb]) (by simp [results, Try.results7, go_sem, hc0, hc1]) rfl ⟨rfl, XX⟩))
set_option maxHeartbeats 3200000 in
set_option maxRecDepth 100000 in
theorem CarrierOf_no (n1 d1' n2 d2' : Int) (hn : ¬ ((goodB n1 d1' && decide (1 < d1')) = true ∧ (goodB n2 d2' && decide (1 < d2')) = true)) (w : World) :
    Calls Try.prog 7 #[.agg #[.int .i64 n1, .int .i64 d1'], .agg #[.int .i64 n2, .int .i64 d2']] w fun e w' => e = .returned (.tuple #[emptyP, .bool false]) ∧ Ext w w' := by
  have B1 := Lib.hid (fun W => isBetween_calls n1 d1' W)
  have B2 := Lib.hid (fun W => isBetween_calls n2 d2' W)
  generalize (goodB n1 d1' && decide (1 < d1')) = g1 at *
  generalize (goodB n2 d2' && decide (1 < d2')) = g2 at *
  obtain ⟨X0, d0, d1, d2, d3, t0⟩ := boxQQ_facts w (.int .i64 n1) (.int .i64 d1') (.int .i64 n2) (.int .i64 d2') (.string ⟨#[]⟩) (.string ⟨#[]⟩) 25 29
  have SX := Lib.hid (And.intro d0 (And.intro d1 (And.intro d2 (And.intro d3 X0))))
  clear X0
  cases g1 with
  | false =>
    go_enter Try.func7, Try.ntmps7
    go_wp2_with fail
    generalize ((w.alloc (.cells #[.int .i64 n1, .int .i64 d1'] 25)).alloc (.cells #[.int .i64 n2, .int .i64 d2'] 25)).alloc (.cells #[.string ⟨#[]⟩, .string ⟨#[]⟩] 29) = W at *
    refine (B1.out _).mono ?_
    rintro e w1 ⟨rfl, x1⟩
    dsimp only
    have X1 := Lib.hid (SX.out.2.2.2.2.trans x1)
    have T12 := t0.ext x1
    obtain ⟨u, v, k0, k1, f0, f1⟩ := T12.facts
    have T12 := Lib.hid T12
    clear x1 t0 d0 d1 d2 d3
    go_wp2_with fail
    have HH := set2_heap T12.out (.string ⟨#[]⟩) (.string ⟨#[]⟩)
    have XX := X1.out.set2 (g := w.heap.size + 1 + 1) (by omega) (.string ⟨#[]⟩) (.string ⟨#[]⟩)
    change bodyPost _ _ _ _ _ (N.set2 _ (w.heap.size + 1 + 1) (.string ⟨#[]⟩) (.string ⟨#[]⟩))
    obtain ⟨hc0, hc1⟩ := cells_of HH
    generalize N.set2 _ (w.heap.size + 1 + 1) (.string ⟨#[]⟩) (.string ⟨#[]⟩) = W13 at *
    exact bodyPost_ret (v := .tuple #[emptyP, .bool false]) (by simp [results, Try.results7, go_sem, hc0, hc1, emptyP]) rfl ⟨rfl, XX⟩
  | true =>
    cases g2 with
    | true => exact absurd ⟨rfl, rfl⟩ hn
    | false =>
      go_enter Try.func7, Try.ntmps7
      go_wp2_with fail
      generalize ((w.alloc (.cells #[.int .i64 n1, .int .i64 d1'] 25)).alloc (.cells #[.int .i64 n2, .int .i64 d2'] 25)).alloc (.cells #[.string ⟨#[]⟩, .string ⟨#[]⟩] 29) = W at *
      refine (B1.out _).mono ?_
      rintro e w1 ⟨rfl, x1⟩
      dsimp only
      have SX := Lib.hid (quad_ext SX.out x1)
      have T1 := Lib.hid (t0.ext x1)
      obtain ⟨d0, d1, d2, d3, _⟩ := SX.out
      clear x1 t0
      go_wp2_with fail
      refine (B2.out _).mono ?_
      rintro e w2 ⟨rfl, x2⟩
      dsimp only
      have X2 := Lib.hid (SX.out.2.2.2.2.trans x2)
      have T12 := T1.out.ext x2
      obtain ⟨u, v, k0, k1, f0, f1⟩ := T12.facts
      have T12 := Lib.hid T12
      clear x2 d0 d1 d2 d3
      go_wp2_with fail
      have HH := set2_heap T12.out (.string ⟨#[]⟩) (.string ⟨#[]⟩)
      have XX := X2.out.set2 (g := w.heap.size + 1 + 1) (by omega) (.string ⟨#[]⟩) (.string ⟨#[]⟩)
      change bodyPost _ _ _ _ _ (N.set2 _ (w.heap.size + 1 + 1) (.string ⟨#[]⟩) (.string ⟨#[]⟩))
      obtain ⟨hc0, hc1⟩ := cells_of HH
      generalize N.set2 _ (w.heap.size + 1 + 1) (.string ⟨#[]⟩) (.string ⟨#[]⟩) = W13 at *
      exact bodyPost_ret (v := .tuple #[emptyP, .bool false]) (by simp [results, Try.results7, go_sem, hc0, hc1, emptyP]) rfl ⟨rfl, XX⟩
end Go.Proofs.Ytgnepbogadfinaa.N
namespace Go.Proofs.Ytgnepbogadfinaa.N
def chb (b : Bool) : UInt8 := if b then 49 else 48
theorem addrs_adr : ∀ (T : Tr) (a : List UInt8) (k : Nat), k ≤ T.carets → (addrs T a)[k]? = some (a ++ (adr T k).map chb)
  | .leaf, a, k, h => by
    simp only [Tr.carets] at h
    obtain rfl : k = 0 := by omega
    simp [addrs, adr]
  | .node l r, a, k, h => by
    simp only [addrs, adr]
    by_cases hk : k < l.carets + 1
    · rw [if_pos hk, List.getElem?_append_left (by rw [addrs_length]; exact hk), addrs_adr l _ k (by omega)]; simp [chb]
    · rw [if_neg hk, List.getElem?_append_right (by rw [addrs_length]; omega), addrs_length, addrs_adr r _ _ (by simp only [Tr.carets] at h; omega)]; simp [chb]
theorem nb_snoc (b : Bool) : ∀ v : List Bool, nb (v ++ [b]) = 2 * nb v + (if b then 1 else 0)
  | [] => by simp [nb]
  | x :: v => by
    simp only [List.cons_append, nb, nb_snoc b v, List.length_append, List.length_singleton, Nat.pow_succ]
    cases x <;> simp <;> omega
theorem plA_bits : ∀ (n : Nat) (v : List Bool), v.length = n → n ≤ 40 → plA (v.map chb) = nb v * part n
  | 0, v, h, _ => by rw [List.eq_nil_of_length_eq_zero h]; rfl
  | n + 1, v, h, hn => by
    have hne : v ≠ [] := fun e => by simp [e] at h
    have hl : v.dropLast.length = n := by rw [List.length_dropLast, h]; rfl
    have ih := plA_bits n v.dropLast hl (by omega)
    rw [← List.dropLast_concat_getLast hne]
    generalize v.dropLast = u at *
    generalize v.getLast hne = b at *
    rw [List.map_append, List.map_singleton, plA_snoc, ih, nb_snoc, List.length_map, hl, part_step (show n < 40 by omega), Nat.add_mul]
    cases b <;> simp [chb] <;> ac_rfl
theorem adr_len (T : Tr) (k : Nat) (hk : k ≤ T.carets) : (adr T k).length ≤ T.carets := by
  have := addrs_depth T [] _ (List.mem_of_getElem? (addrs_adr T [] k hk))
  have := T.depth_le
  simp at *
  omega
theorem fi_strict (p : Nat) : ∀ (l : List (List UInt8)) (s e : Nat), Chn s e l → l ≠ [] → s ≤ p → p < e → ∃ a, l[fi p l]? = some a ∧ plA a ≤ p ∧ p < plA a + part a.length
  | [], _, _, _, h, _, _ => absurd rfl h
  | a :: l, s, e, hc, _, hs, he => by
    simp only [fi]
    by_cases h : p < plA a + part a.length
    · rw [if_pos h]; exact ⟨a, rfl, by rw [hc.1]; exact hs, h⟩
    · rw [if_neg h]
      by_cases hl : l = []
      · subst hl
        have : s + part a.length = e := hc.2
        have := hc.1
        omega
      · rw [if_neg hl]
        obtain ⟨b, h1, h2, h3⟩ := fi_strict p l _ e hc.2 hl (by rw [hc.1] at h; omega) he
        exact ⟨b, by rw [Nat.add_comm, List.getElem?_cons_succ]; exact h1, h2, h3⟩
theorem fi_lt (p : Nat) : ∀ (l : List (List UInt8)), l ≠ [] → fi p l < l.length
  | [], h => absurd rfl h
  | a :: l, _ => by
    simp only [fi, List.length_cons]
    split
    · omega
    · split
      · omega
      · rename_i h
        have := fi_lt p l h
        omega
theorem leaf_at (A : Tr) (hA : A.carets ≤ 40) {p : Nat} (hp : p < 1099511627776) : fi p (addrs A []) ≤ A.carets ∧ (adr A (fi p (addrs A []))).length ≤ A.carets ∧ (addrs A []).getD (fi p (addrs A [])) [] = (adr A (fi p (addrs A []))).map chb ∧
    nb (adr A (fi p (addrs A []))) * part (adr A (fi p (addrs A []))).length ≤ p ∧ p < nb (adr A (fi p (addrs A []))) * part (adr A (fi p (addrs A []))).length + part (adr A (fi p (addrs A []))).length := by
  have cA := addrs_chn A [] (by have := A.depth_le; simp; omega)
  have hne : addrs A [] ≠ [] := fun h => by have := addrs_length A []; rw [h] at this; simp at this
  have h1 := fi_lt p _ hne
  rw [addrs_length] at h1
  obtain ⟨a, ha, h2, h3⟩ := fi_strict p (addrs A []) _ _ cA hne (by show 0 ≤ p; omega) (by show p < 0 + part 0; rw [part_zero]; omega)
  have e := addrs_adr A [] (fi p (addrs A [])) (by omega)
  rw [ha, List.nil_append] at e
  have e := Option.some.inj e
  have hl := adr_len A (fi p (addrs A [])) (by omega)
  refine ⟨by omega, hl, by rw [List.getD_eq_getElem?_getD, ha]; exact e, ?_⟩
  rw [e, plA_bits _ _ rfl (by omega), List.length_map] at h3
  rw [e, plA_bits _ _ rfl (by omega)] at h2
  exact ⟨h2, h3⟩
theorem sp_in (v : List Bool) (hv : v.length ≤ 40) {p : Nat} (h1 : nb v * part v.length ≤ p) (h2 : p < nb v * part v.length + part v.length) : sp p = sapp v (sp ((p - nb v * part v.length) * 2 ^ v.length)) := by
  rw [sapp_sp v _ hv (by omega)]
  congr 1
  omega
theorem sp_inj {p q : Nat} (hp : p < 1099511627776) (hq : q < 1099511627776) (h : sp p = sp q) : p = q := by
  refine Nat.eq_of_testBit_eq fun i => ?_
  by_cases hi : i < 40
  · have := congrFun h (39 - i)
    simp only [sp] at this
    rw [decide_eq_true (show 39 - i < 40 by omega), Bool.true_and, Bool.true_and, show 39 - (39 - i) = i by omega] at this
    exact this
  · have e : (1099511627776 : Nat) = 2 ^ 40 := rfl
    rw [Nat.testBit_lt_two_pow (Nat.lt_of_lt_of_le hp (by rw [e]; exact Nat.pow_le_pow_right (by omega) (by omega))), Nat.testBit_lt_two_pow (Nat.lt_of_lt_of_le hq (by rw [e]; exact Nat.pow_le_pow_right (by omega) (by omega)))]
theorem nb_part (v : List Bool) (hv : v.length ≤ 40) : nb v * part v.length + part v.length ≤ 1099511627776 := by
  have := Nat.mul_le_mul_right (part v.length) (show nb v + 1 ≤ 2 ^ v.length from nb_lt v)
  rw [part_mul hv, Nat.add_mul, Nat.one_mul] at this
  exact this
theorem act_sp {A B : Tr} (hc : A.carets = B.carets) (hB : B.carets ≤ 20) {p : Nat} (hp : p < 1099511627776) (hg : p % 1048576 = 0) : act (A, B) (sp p) = sp (vaF A B p) ∧ vaF A B p < 1099511627776 := by
  obtain ⟨h1, h2, h3, h4, h5⟩ := leaf_at A (by omega) hp
  unfold vaF
  rw [h3]
  generalize fi p (addrs A []) = k at *
  have hb := addrs_adr B [] k (by omega)
  rw [List.nil_append] at hb
  rw [List.getD_eq_getElem?_getD, hb, Option.getD_some]
  have hw := adr_len B k (by omega)
  unfold act
  rw [find_eq (t := sp ((p - nb (adr A k) * part (adr A k).length) * 2 ^ (adr A k).length)) h1 (sp_in _ (by omega) h4 h5)]
  simp only
  generalize adr A k = v at *
  generalize adr B k = w at *
  unfold vaL
  simp only [List.length_map]
  rw [plA_bits _ v rfl (by omega), plA_bits _ w rfl (by omega)]
  have nw := nb_part w (by omega)
  by_cases h : w.length ≤ v.length
  · rw [if_pos h]
    have e := part_pow (l := w.length) (s := v.length - w.length) (by omega)
    rw [show w.length + (v.length - w.length) = v.length by omega] at e
    have hlt := Nat.mul_lt_mul_of_pos_right (show p - nb v * part v.length < part v.length by omega) (Nat.two_pow_pos (v.length - w.length))
    rw [e] at hlt
    refine ⟨?_, by omega⟩
    rw [← sapp_sp w _ (by omega) hlt, Nat.mul_assoc, ← Nat.pow_add, show v.length - w.length + w.length = v.length by omega]
  · rw [if_neg h]
    have e := part_pow (l := v.length) (s := w.length - v.length) (by omega)
    rw [show v.length + (w.length - v.length) = w.length by omega] at e
    have hd : 2 ^ (w.length - v.length) ∣ p - nb v * part v.length := by
      refine Nat.dvd_sub ?_ ?_
      · exact Nat.dvd_trans (show 2 ^ (w.length - v.length) ∣ 1048576 from ⟨2 ^ (20 - (w.length - v.length)), by rw [← Nat.pow_add, show w.length - v.length + (20 - (w.length - v.length)) = 20 by omega]⟩) (Nat.dvd_of_mod_eq_zero hg)
      · rw [← e, ← Nat.mul_assoc]; exact Nat.dvd_mul_left _ _
    obtain ⟨x, hx⟩ := hd
    rw [hx, Nat.mul_div_cancel_left _ (Nat.two_pow_pos _)]
    have hxl : x < part w.length := by
      apply Nat.lt_of_not_le
      intro hle
      have := Nat.mul_le_mul_left (2 ^ (w.length - v.length)) hle
      rw [Nat.mul_comm _ (part w.length), e] at this
      omega
    refine ⟨?_, by omega⟩
    rw [← sapp_sp w x (by omega) hxl, show 2 ^ (w.length - v.length) * x * 2 ^ v.length = x * 2 ^ w.length by
      rw [Nat.mul_comm (2 ^ (w.length - v.length)) x, Nat.mul_assoc, ← Nat.pow_add, show w.length - v.length + v.length = w.length by omega]]
end Go.Proofs.Ytgnepbogadfinaa.N
namespace Go.Proofs.Ytgnepbogadfinaa.N
theorem stT_out (m p : Nat) (a : List UInt8) (h : p ≤ plA a ∨ plA a + part a.length ≤ p) : stT m p a = .leaf := by
  cases m with
  | zero => rfl
  | succ m => unfold stT; rw [if_pos h]
theorem fi_here (p : Nat) : ∀ (l l2 : List (List UInt8)) (b : List UInt8), l[fi p l]? = some b → p < plA b + part b.length → fi p (l ++ l2) = fi p l
  | [], _, _, h, _ => by simp at h
  | a :: l, l2, b, h, hb => by
    simp only [List.cons_append, fi] at h ⊢
    by_cases h1 : p < plA a + part a.length
    · rw [if_pos h1, if_pos h1]
    · rw [if_neg h1] at h ⊢
      rw [if_neg h1]
      by_cases hl : l = []
      · subst hl
        simp at h
        subst h
        exact absurd hb h1
      · rw [if_neg hl] at h ⊢
        rw [if_neg (by simp [hl])]
        rw [Nat.add_comm, List.getElem?_cons_succ] at h
        rw [fi_here p l l2 b h hb]
theorem chn_le : ∀ {l : List (List UInt8)} {s e : Nat}, Chn s e l → s ≤ e
  | [], s, e, h => by cases h; exact Nat.le_refl _
  | a :: l, s, e, h => by have := chn_le h.2; omega
theorem fi_there (p : Nat) : ∀ (l l2 : List (List UInt8)) (s e : Nat), Chn s e l → e ≤ p → l2 ≠ [] → fi p (l ++ l2) = l.length + fi p l2
  | [], _, _, _, _, _, _ => by simp
  | a :: l, l2, s, e, hc, he, h2 => by
    have := chn_le hc.2
    simp only [List.cons_append, fi, List.length_cons]
    rw [hc.1, if_neg (by omega), if_neg (by simp [h2]), fi_there p l l2 _ e hc.2 he h2]
    omega
theorem stT_step (p : Nat) : ∀ (n : Nat) (a : List UInt8), a.length + n < 40 → plA a ≤ p → p < plA a + part a.length →
    ∃ k b, fi p (addrs (stT n p a) a) = k ∧ (addrs (stT n p a) a)[k]? = some b ∧ plA b ≤ p ∧ p < plA b + part b.length ∧ b.length ≤ a.length + n ∧ (plA b = p ∨ b.length = a.length + n) ∧
      (plA b = p → stT (n + 1) p a = stT n p a) ∧ (plA b ≠ p → ∀ j, stT (n + 1) p a = (stT n p a).grown (fun i => if i = j + k then .node .leaf .leaf else .leaf) j)
  | 0, a, hl, h1, h2 => by
    have e : fi p [a] = 0 := by simp [fi, h2]
    refine ⟨0, a, e, rfl, h1, h2, Nat.le_refl _, .inr rfl, ?_, ?_⟩
    · intro h
      exact stT_out 1 p a (.inl (by omega))
    · intro h j
      show (if p ≤ plA a ∨ plA a + part a.length ≤ p then Tr.leaf else .node (stT 0 p (a ++ [48])) (stT 0 p (a ++ [49]))) = Tr.grown _ .leaf j
      rw [if_neg (by omega)]
      simp only [stT, Tr.grown]
      rw [Nat.add_zero, if_pos rfl]
  | n + 1, a, hl, h1, h2 => by
    by_cases hp : p = plA a
    · have e1 := stT_out (n + 1) p a (.inl (by omega))
      have e2 := stT_out (n + 1 + 1) p a (.inl (by omega))
      have e : fi p [a] = 0 := by simp [fi, h2]
      rw [e1, e2]
      exact ⟨0, a, e, rfl, h1, h2, by omega, .inl hp.symm, fun _ => rfl, fun h => absurd hp.symm h⟩
    · have hne : ¬ (p ≤ plA a ∨ plA a + part a.length ≤ p) := by omega
      have u1 : stT (n + 1) p a = .node (stT n p (a ++ [48])) (stT n p (a ++ [49])) := by
        show (if _ then _ else _) = _
        rw [if_neg hne]
      have u2 : stT (n + 1 + 1) p a = .node (stT (n + 1) p (a ++ [48])) (stT (n + 1) p (a ++ [49])) := by
        show (if _ then _ else _) = _
        rw [if_neg hne]
      have z0 := plA_zero a
      have z1 := plA_one a
      have l0 : (a ++ [(48 : UInt8)]).length = a.length + 1 := by simp
      have l1 : (a ++ [(49 : UInt8)]).length = a.length + 1 := by simp
      have ps := part_step (k := a.length) (by omega)
      rw [u1, u2]
      by_cases hm : p < plA a + part (a.length + 1)
      · obtain ⟨k, b, i0, i1, i2, i3, i4, i5, i6, i7⟩ := stT_step p n (a ++ [48]) (by omega) (by omega) (by rw [z0, l0]; omega)
        have o1 : stT n p (a ++ [49]) = .leaf := stT_out _ _ _ (.inl (by omega))
        have o2 : stT (n + 1) p (a ++ [49]) = .leaf := stT_out _ _ _ (.inl (by omega))
        rw [o1, o2]
        simp only [addrs]
        have hk := (List.getElem?_eq_some_iff.1 i1).1
        have e := fi_here p (addrs (stT n p (a ++ [48])) (a ++ [48])) [a ++ [49]] b (by rw [i0]; exact i1) i3
        rw [i0] at e
        refine ⟨k, b, e, ?_, i2, i3, by omega, by omega, fun h => by rw [i6 h], fun h j => ?_⟩
        · rw [List.getElem?_append_left hk]; exact i1
        · rw [addrs_length] at hk
          simp only [Tr.grown]
          rw [← i7 h j, if_neg (by omega)]
      · obtain ⟨k, b, i0, i1, i2, i3, i4, i5, i6, i7⟩ := stT_step p n (a ++ [49]) (by omega) (by omega) (by rw [z1, l1]; omega)
        have o1 : stT n p (a ++ [48]) = .leaf := stT_out _ _ _ (.inr (by rw [l0]; omega))
        have o2 : stT (n + 1) p (a ++ [48]) = .leaf := stT_out _ _ _ (.inr (by rw [l0]; omega))
        have hk := (List.getElem?_eq_some_iff.1 i1).1
        have hne2 : addrs (stT n p (a ++ [49])) (a ++ [49]) ≠ [] := fun h => by rw [h] at hk; simp at hk
        rw [o1, o2]
        simp only [addrs]
        have cc : Chn (plA a) (plA a + part (a.length + 1)) [a ++ [48]] := ⟨z0, by rw [l0]; rfl⟩
        have e := fi_there p [a ++ [48]] _ _ _ cc (by omega) hne2
        rw [i0, List.length_singleton] at e
        refine ⟨1 + k, b, e, ?_, i2, i3, by omega, by omega, fun h => by rw [i6 h], fun h j => ?_⟩
        · rw [List.getElem?_append_right (by simp), show [a ++ [(48 : UInt8)]].length = 1 from rfl, Nat.add_sub_cancel_left]; exact i1
        · simp only [Tr.grown, Tr.carets]
          rw [i7 h (j + (0 + 1)), if_neg (by omega)]
          congr 2
          funext i
          have : (i = j + (0 + 1) + k) ↔ (i = j + (1 + k)) := by omega
          simp only [this]
theorem stT_end (p : Nat) (hp : p < 1099511627776) (hg : p % 1073741824 = 0) : ∃ k b, fi p (addrs (stT 10 p []) []) = k ∧ (addrs (stT 10 p []) [])[k]? = some b ∧ plA b = p ∧ b.length ≤ 10 ∧ ∀ n, 10 ≤ n → n < 40 → stT n p [] = stT 10 p [] := by
  have fin : ∀ n, 10 ≤ n → n < 40 → ∃ k b, fi p (addrs (stT n p []) []) = k ∧ (addrs (stT n p []) [])[k]? = some b ∧ plA b = p ∧ b.length ≤ n ∧ stT (n + 1) p [] = stT n p [] := by
    intro n hn hn2
    obtain ⟨k, b, i0, i1, i2, i3, i4, i5, i6, i7⟩ := stT_step p n [] (by simpa using hn2) (Nat.zero_le _) (by show p < 0 + part 0; rw [part_zero]; omega)
    simp only [List.length_nil, Nat.zero_add] at i4 i5
    have hb : plA b = p := by
      rcases i5 with h | h
      · exact h
      · have m1 := plA_mod b.length b rfl (by omega)
        have m2 : p % part b.length = 0 := by
          refine Nat.mod_eq_zero_of_dvd (Nat.dvd_trans ?_ (Nat.dvd_of_mod_eq_zero hg))
          rw [show (1073741824 : Nat) = 2 ^ 30 from rfl]
          exact Nat.pow_dvd_pow 2 (by omega)
        obtain ⟨x, hx⟩ := Nat.dvd_of_mod_eq_zero m1
        obtain ⟨y, hy⟩ := Nat.dvd_of_mod_eq_zero m2
        have hd : 0 < part b.length := Nat.two_pow_pos _
        generalize part b.length = d at *
        rw [hx, hy] at i2 i3
        have g1 := Nat.le_of_mul_le_mul_left i2 hd
        have g2 : y < x + 1 := Nat.lt_of_mul_lt_mul_left (a := d) (by rw [Nat.mul_add, Nat.mul_one]; exact i3)
        rw [hx, hy, show x = y by omega]
    exact ⟨k, b, i0, i1, hb, i4, i6 hb⟩
  obtain ⟨k, b, h0, h1, h2, h3, h4⟩ := fin 10 (Nat.le_refl _) (by omega)
  refine ⟨k, b, h0, h1, h2, h3, ?_⟩
  intro n
  induction n with
  | zero => intro h; omega
  | succ n ih =>
    intro h1 h2
    by_cases hn : n = 9
    · subst hn; rfl
    · obtain ⟨_, _, _, _, _, _, h⟩ := fin n (by omega) (by omega)
      rw [h, ih (by omega) (by omega)]
theorem chn_from : ∀ {l : List (List UInt8)} {s e : Nat}, Chn s e l → ∀ a ∈ l, s ≤ plA a ∧ plA a < e
  | [], _, _, _, a, h => by cases h
  | b :: l, s, e, hc, a, h => by
    have h1 := chn_le hc.2
    have h2 : 0 < part b.length := Nat.two_pow_pos _
    rcases List.mem_cons.1 h with rfl | h
    · have := hc.1; omega
    · have := chn_from hc.2 a h; omega
theorem frT_at (p : Nat) : ∀ (l : List (List UInt8)) (s e k : Nat) (b : List UInt8), Chn s e l → l[k]? = some b → plA b = p → frT p l = k ∧ bhT p l = l.length - 1 - k
  | [], _, _, _, _, _, h, _ => by simp at h
  | a :: l, s, e, 0, b, hc, h, hb => by
    simp at h
    subst h
    have g := chn_from hc.2
    have h0 : 0 < part a.length := Nat.two_pow_pos _
    have g1 := hc.1
    have e1 : l.filter (fun a => decide (plA a < p)) = [] := List.filter_eq_nil_iff.2 fun x hx => by have := g x hx; simp; omega
    have e2 : l.filter (fun a => decide (p < plA a)) = l := List.filter_eq_self.2 fun x hx => by have := g x hx; simp; omega
    unfold frT bhT
    rw [List.filter_cons, List.filter_cons, if_neg (by simp; omega), if_neg (by simp; omega), e1, e2]
    simp
  | a :: l, s, e, k + 1, b, hc, h, hb => by
    rw [List.getElem?_cons_succ] at h
    obtain ⟨i1, i2⟩ := frT_at p l _ e k b hc.2 h hb
    have g := chn_from hc.2 b (List.mem_of_getElem? h)
    have h0 : 0 < part a.length := Nat.two_pow_pos _
    have g1 := hc.1
    have hk := (List.getElem?_eq_some_iff.1 h).1
    unfold frT bhT at *
    rw [List.filter_cons, List.filter_cons, if_pos (by simp; omega), if_neg (by simp; omega), List.length_cons, i1, i2]
    refine ⟨rfl, ?_⟩
    rw [List.length_cons]
    omega
theorem grown_congr (h g : Nat → Tr) : ∀ (T : Tr) (k : Nat), (∀ i, k ≤ i → i < k + (T.carets + 1) → h i = g i) → T.grown h k = T.grown g k
  | .leaf, k, e => e k (Nat.le_refl _) (by simp [Tr.carets])
  | .node l r, k, e => by
    simp only [Tr.grown]
    rw [grown_congr h g l k fun i h1 h2 => e i h1 (by simp only [Tr.carets]; omega), grown_congr h g r _ fun i h1 h2 => e i (by omega) (by simp only [Tr.carets]; omega)]
theorem graft_first (h : Nat → Tr) (O : Tr) (h0 : h 0 = .leaf) : ∀ (T : Tr), graft (T.grown h 0) 0 O = T.grown (fun i => if i = 0 then O else h i) 0
  | .leaf => by simp [graft, Tr.grown, h0]
  | .node l r => by
    have ih := graft_first h O h0 l
    unfold graft at ih ⊢
    simp only [Tr.grown]
    rw [ih, grown_same _ (r.grown h _) _ (fun i h1 h2 => if_neg (by omega)), grown_congr (fun i => if i = 0 then O else h i) h r _ (fun i h1 h2 => if_neg (by omega))]
theorem pad_two (T : Tr) (f l : Nat) (hT : 1 ≤ T.carets) : graft (graft T T.carets (comb l)) 0 (comb f) = padT T f l := by
  have := graft_first (fun i => if i = T.carets then comb l else .leaf) (comb f) (if_neg (by omega)) T
  unfold padT
  rw [← this]
  rfl
def padL (T : Tr) (f l : Nat) : List Tr := (List.range (T.carets + 1)).map fun i => if i = 0 then comb f else if i = T.carets then comb l else .leaf
theorem padL_at (T : Tr) (f l k : Nat) (hk : k ≤ T.carets) : (padL T f l).getD k .leaf = if k = 0 then comb f else if k = T.carets then comb l else .leaf := by
  unfold padL
  rw [List.getD_eq_getElem?_getD, List.getElem?_map, List.getElem?_range (by omega)]
  rfl
theorem padT_fill (T : Tr) (f l : Nat) : padT T f l = fill T (padL T f l) := by
  unfold padT fill
  exact grown_congr _ _ T 0 fun i h1 h2 => (padL_at T f l i (by omega)).symm
theorem pad_off (T : Tr) (f l : Nat) : ∀ k, 1 ≤ k → k ≤ T.carets → off (padL T f l) k = k + f
  | 0, h, _ => by omega
  | k + 1, _, h => by
    simp only [off]
    rw [padL_at T f l k (by omega)]
    by_cases hk : k = 0
    · subst hk
      rw [if_pos rfl, comb_carets]
      simp only [off]
      omega
    · rw [if_neg hk, if_neg (by omega), pad_off T f l k (by omega) (by omega)]
      simp only [Tr.carets]
      omega
theorem pad_carets (T : Tr) (f l : Nat) (hT : 1 ≤ T.carets) : (padT T f l).carets = T.carets + f + l := by
  have h := fill_off (padL T f l) T
  simp only [off] at h
  rw [pad_off T f l _ hT (Nat.le_refl _), padL_at T f l _ (Nat.le_refl _), if_neg (by omega), if_pos rfl, comb_carets] at h
  rw [padT_fill]
  omega
theorem pad_adr (T : Tr) (f l k : Nat) (h1 : 1 ≤ k) (hk : k ≤ T.carets) : ∃ z, adr (padT T f l) (k + f) = adr T k ++ z ∧ (z = [] ∨ z = [false]) := by
  have h := fill_adr (padL T f l) T k 0 hk (Nat.zero_le _)
  rw [← padT_fill, pad_off T f l k h1 hk, Nat.add_zero, padL_at T f l k hk] at h
  refine ⟨_, h, ?_⟩
  rw [if_neg (by omega)]
  split
  · cases l with
    | zero => left; rfl
    | succ l => right; rfl
  · left; rfl
theorem nb_false (v z : List Bool) (hz : z = [] ∨ z = [false]) (hv : v.length < 40) : nb (v ++ z) * part (v ++ z).length = nb v * part v.length := by
  rcases hz with rfl | rfl
  · rw [List.append_nil]
  · rw [nb_snoc, List.length_append, List.length_singleton, part_step hv]
    simp only [Bool.false_eq_true, if_false, Nat.add_zero]
    ac_rfl
theorem st_facts (p : Nat) (h0 : 0 < p) (hp : p < 1099511627776) (hg : p % 1073741824 = 0) :
    ∃ k, fi p (addrs (stT 10 p []) []) = k ∧ 1 ≤ k ∧ k ≤ (stT 10 p []).carets ∧ (stT 10 p []).carets ≤ 10 ∧ frT p (addrs (stT 10 p []) []) = k ∧ bhT p (addrs (stT 10 p []) []) = (stT 10 p []).carets - k ∧ nb (adr (stT 10 p []) k) * part (adr (stT 10 p []) k).length = p ∧ (adr (stT 10 p []) k).length ≤ 10 := by
  obtain ⟨k, b, hk0, h1, h2, h3, _⟩ := stT_end p hp hg
  have hs : (stT 10 p []).carets ≤ 10 := stT_small 10 p [] (by simp)
  generalize stT 10 p [] = T at *
  have cT := addrs_chn T [] (by have := T.depth_le; simp; omega)
  have hk := (List.getElem?_eq_some_iff.1 h1).1
  rw [addrs_length] at hk
  obtain ⟨g1, g2⟩ := frT_at p _ _ _ _ b cT h1 h2
  rw [addrs_length] at g2
  have e := addrs_adr T [] k (by omega)
  rw [h1, List.nil_append] at e
  have e := Option.some.inj e
  have hl : (adr T k).length = b.length := by rw [e, List.length_map]
  have hk1 : k ≠ 0 := by
    intro hz
    subst hz
    cases hA : addrs T [] with
    | nil => rw [hA] at h1; simp at h1
    | cons a l =>
      rw [hA] at h1 cT
      simp at h1
      subst h1
      have h4 := cT.1
      have h5 : plA ([] : List UInt8) = 0 := rfl
      omega
  refine ⟨k, hk0, by omega, by omega, hs, g1, by omega, ?_, by omega⟩
  rw [e, plA_bits _ _ rfl (by omega)] at h2
  exact h2
theorem car_facts (p q : Nat) (hp0 : 0 < p) (hp : p < 1099511627776) (hpg : p % 1073741824 = 0) (hq0 : 0 < q) (hq : q < 1099511627776) (hqg : q % 1073741824 = 0) :
    Bal (carP p q) ∧ (carP p q).1.carets ≤ 30 ∧ act (carP p q) (sp p) = sp q := by
  obtain ⟨i, _, i1, i2, i3, i4, i5, i6, i7⟩ := st_facts p hp0 hp hpg
  obtain ⟨j, _, j1, j2, j3, j4, j5, j6, j7⟩ := st_facts q hq0 hq hqg
  unfold carP
  dsimp only
  rw [i4, i5, j4, j5]
  generalize stT 10 p [] = T at *
  generalize stT 10 q [] = U at *
  have c1 := pad_carets T (j - i) (U.carets - j - (T.carets - i)) (by omega)
  have c2 := pad_carets U (i - j) (T.carets - i - (U.carets - j)) (by omega)
  have hb : (padT T (j - i) (U.carets - j - (T.carets - i))).carets = (padT U (i - j) (T.carets - i - (U.carets - j))).carets := by omega
  refine ⟨hb, by omega, ?_⟩
  obtain ⟨z, a1, a2⟩ := pad_adr T (j - i) (U.carets - j - (T.carets - i)) i i1 i2
  obtain ⟨y, b1, b2⟩ := pad_adr U (i - j) (T.carets - i - (U.carets - j)) j j1 j2
  have ei : j + (i - j) = i + (j - i) := by omega
  rw [ei] at b1
  have n1 := nb_false (adr T i) z a2 (by omega)
  have n2 := nb_false (adr U j) y b2 (by omega)
  have lz : z.length ≤ 1 := by rcases a2 with rfl | rfl <;> simp
  have ly : y.length ≤ 1 := by rcases b2 with rfl | rfl <;> simp
  have s1 := sapp_sp (adr T i ++ z) 0 (by simp; omega) (Nat.two_pow_pos _)
  have s2 := sapp_sp (adr U j ++ y) 0 (by simp; omega) (Nat.two_pow_pos _)
  rw [n1, i6, Nat.zero_mul, Nat.add_zero] at s1
  rw [n2, j6, Nat.zero_mul, Nat.add_zero] at s2
  rw [← s1, ← s2, ← a1, ← b1]
  exact act_at (padT T (j - i) (U.carets - j - (T.carets - i)), padT U (i - j) (T.carets - i - (U.carets - j))) (i + (j - i)) (by simp only; omega) _
theorem car_swap (p q : Nat) : carP q p = inv (carP p q) := rfl
theorem red_inv {p : Tr × Tr} (h : Bal p) : red (inv p) = inv (red p) :=
  pair_ext h.inv.red h.red.inv (red_both _) (by
    have := red_both p
    exact both_nil.2 fun k h1 h2 => both_nil.1 this k h2 h1) fun s => by
    obtain ⟨t, rfl⟩ : ∃ t, s = act p t := ⟨act (inv p) s, (act_inv' h s).symm⟩
    rw [act_red h.inv, act_inv h]
    have := act_inv h.red t
    rw [act_red h] at this
    exact this.symm
theorem car_same (p : Nat) : red (carP p p) = one := by
  have e : carP p p = ((carP p p).1, (carP p p).1) := rfl
  have hb : Bal (carP p p) := rfl
  have : red (carP p p) = red one := red_ext hb Bal.one fun s => by
    rw [e, act_one]
    exact adr_find _ s
  exact this
theorem car_val (p q : Nat) (hp0 : 0 < p) (hp : p < 1099511627776) (hpg : p % 1073741824 = 0) (hq0 : 0 < q) (hq : q < 1099511627776) (hqg : q % 1073741824 = 0) (hs : (red (carP p q)).1.carets ≤ 8) :
    vaF (red (carP p q)).1 (red (carP p q)).2 p = q := by
  obtain ⟨h1, h2, h3⟩ := car_facts p q hp0 hp hpg hq0 hq hqg
  have hr := h1.red
  have := act_red h1 (sp p)
  rw [h3] at this
  have hb : (red (carP p q)).1.carets = (red (carP p q)).2.carets := hr
  obtain ⟨g1, g2⟩ := act_sp (A := (red (carP p q)).1) (B := (red (carP p q)).2) hb (by omega) hp (Nat.mod_eq_zero_of_dvd (Nat.dvd_trans ⟨1024, rfl⟩ (Nat.dvd_of_mod_eq_zero hpg)))
  rw [show ((red (carP p q)).1, (red (carP p q)).2) = red (carP p q) from rfl, this] at g1
  exact (sp_inj hq g2 g1).symm
end Go.Proofs.Ytgnepbogadfinaa.N
