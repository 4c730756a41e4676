import Derived.Test.YtpmmajfdcicjiaaG1RFnRotationsMade
import Derived.Test.YtpmmajfdcicjiaaG2RFnRotationsMade
import Derived.Test.YtpmmajfdcicjiaaProg
import Derived.Test.YtpmmajfdcicjiaaG3RFnRotationsMade
import Derived.Test.YtpmmajfdcicjiaaG10RFnRotationsMade
import Derived.Test.YtpmmajfdcicjiaaG14RFnRotationsMade
import Derived.Test.YtpmmajfdcicjiaaG15RFnRotationsMade
import Derived.Test.YtpmmajfdcicjiaaG16RFnRotationsMade
import Derived.Test.YtpmmajfdcicjiaaG5RFnRotationsMade
import Derived.Test.YtpmmajfdcicjiaaG6RFnRotationsMade
import Derived.Test.YtpmmajfdcicjiaaG7RFnRotationsMade
import Derived.Test.YtpmmajfdcicjiaaG24RFnRotationsMade
import Derived.Test.YtpmmajfdcicjiaaG8RFnRotationsMade
import Derived.Test.YtpmmajfdcicjiaaG28RFnRotationsMade
import Derived.Deep.LoopGhost
import Derived.Deep.QuietTactic
import Derived.BigQuiet
import Derived.Deep.RegionHeld3
import Derived.Deep.OwnRows
import Derived.Test.YtpmmajfdcicjiaaG19RFnRotationsMade
/- Does a table keep the values of a pair: the reference. -/
namespace Go.Proofs.Ytpmmajfdcicjiaa.N
open Go.RowKit
set_option linter.unusedVariables false
set_option linter.unusedSimpArgs false

def Keeps (n : Nat) (g : Nat → Nat → Nat) (A B : Tr) (pre : List Nat) : Prop :=
  ∀ zs : List Nat, pre.length + zs.length = A.carets + 1 → (∀ z ∈ zs, z < n) → val g A (pre ++ zs) = val g B (pre ++ zs)
theorem keeps_step {n : Nat} {g : Nat → Nat → Nat} {A B : Tr} {pre : List Nat} (h : pre.length < A.carets + 1) : Keeps n g A B pre ↔ ∀ x, x < n → Keeps n g A B (pre ++ [x]) := by
  constructor
  · intro hk x hx zs hl hz
    have := hk (x :: zs) (by simp at hl ⊢; omega) (by intro z hm; rcases List.mem_cons.1 hm with rfl | hm; exact hx; exact hz z hm)
    simpa using this
  · intro hk zs hl hz
    cases zs with
    | nil => simp at hl; omega
    | cons x zs =>
      have := hk x (hz x List.mem_cons_self) zs (by simp at hl ⊢; omega) (fun z hm => hz z (List.mem_cons_of_mem _ hm))
      simpa using this
theorem keeps_end {n : Nat} {g : Nat → Nat → Nat} {A B : Tr} {pre : List Nat} (h : pre.length = A.carets + 1) : Keeps n g A B pre ↔ val g A pre = val g B pre := by
  constructor
  · intro hk
    have := hk [] (by simpa using h) (by simp)
    simpa using this
  · intro he zs hl _
    have : zs = [] := List.eq_nil_of_length_eq_zero (by omega)
    subst this
    simpa using he
theorem keeps_dig {n : Nat} (hn : 0 < n) {g : Nat → Nat → Nat} {A B : Tr} : Keeps n g A B [] ↔ ∀ q, q < n ^ (A.carets + 1) → val g A (dig n (A.carets + 1) q) = val g B (dig n (A.carets + 1) q) := by
  constructor
  · intro hk q _
    have := hk (dig n (A.carets + 1) q) (by simp [dig_length]) (dig_lt hn _ _)
    simpa using this
  · intro hk zs hl hz
    simp only [List.length_nil, Nat.zero_add] at hl
    obtain ⟨q, hq, e⟩ := dig_all hn zs hz
    rw [hl] at hq e
    have := hk q hq
    rw [e] at this
    simpa using this
theorem lt_snoc {n : Nat} {pre : List Nat} {x : Nat} (hp : ∀ y ∈ pre, y < n) (hx : x < n) : ∀ y ∈ pre ++ [x], y < n := by
  intro y hy
  rcases List.mem_append.1 hy with hy | hy
  · exact hp y hy
  · obtain rfl : y = x := by simpa using hy
    exact hx

set_option maxHeartbeats 1600000 in
theorem l1Own_calls (xs : List Int) (hl : xs.length ≤ 1048576) (v : Value) (w : World) (hv : Reads w v (ints xs)) :
    Calls Try.prog 158 #[v] w fun e w' => ∃ u, e = .returned u ∧ Own w' w.heap.size 3 u (ints xs) ∧ Ext w w' := by
  have ON : Own (w.alloc (.cells #[] 3)) w.heap.size 3 (.slice (some ⟨w.heap.size, 0, none⟩) 0 0) (ints []) := Own.lit w w.heap.size 3 #[] (Nat.le_refl _) (by show 0 ≤ maxLen; decide)
  have RD := hv.ext ((Ext.refl w).alloc (.cells #[] 3))
  have LL : Hid (((ints []).length + (ints xs).length) * 8 ≤ 140737488355328) := by show _ ≤ _; rw [ints_length, ints_length]; simp only [List.length_nil]; omega
  have LX := Lib.hid ((Ext.refl w).alloc (.cells #[] 3)).size
  obtain ⟨AA, cc, rfl, _, _⟩ := hv
  rw [ints_length] at RD ⊢
  go_enter Try.func158, Try.ntmps158
  go_wp2_with (at_builtin; refine wpList_app rfl (.tmp 3) (.tmp 4) 32 rfl w.heap.size 3 (.int .i64 0) 8 Try.underlying32 infoInt rfl (by omega) _ _ _ (ints xs) rfl rfl ON RD (ints_one _) LL.out LX.out ?_; intro v2 w2 o2 g2 _)
  have X2 := Lib.hid (((Ext.refl w).alloc (.cells #[] 3)).grown g2 ON.lo)
  have O2 := Lib.hid o2
  clear o2 g2 ON RD
  go_wp2_with fail
  go_ret
  exact ⟨_, rfl, O2.out, X2.out⟩

set_option maxHeartbeats 6400000 in
set_option maxRecDepth 100000 in
theorem brKeeps_calls (n : Nat) (g : Nat → Nat → Nat) (hg : ∀ i j, i < n → j < n → g i j < n) (hn : n ≤ 4) (A B : Tr) (hAB : A.carets = B.carets) (hA : A.carets ≤ 8) (d : Nat) : ∀ (pre : List Nat) (tv v : Value) (w : World), pre.length + d = A.carets + 1 → (∀ y ∈ pre, y < n) → TabR w tv n g → RC w v (nats pre) →
    Calls Try.prog 85 #[.agg #[.string (tx A), .string (tx B)], tv, v] w fun e w' => ∃ b, e = .returned (.bool b) ∧ Hid (b = true ↔ Keeps n g A B pre) ∧ Ext w w' := by
  induction d with
  | zero =>
    intro pre tv v w hl hp ht hv
    have X1 := Lib.hid ((Ext.refl w).alloc (.cells #[.string (tx A), .string (tx B)] 25))
    obtain ⟨c0, c1⟩ := cells_of (heap_alloc_new w (.cells #[.string (tx A), .string (tx B)] 25))
    have C1 := Lib.hid (fun W => trCarets_tree A (by omega) W)
    have C2 := Lib.hid (fun W (h : Ext w W) => brValue_calls n g hg A pre tv v W (by omega) (by omega) (by omega) hp (ht.ext h) (hv.ext h))
    have C3 := Lib.hid (fun W (h : Ext w W) => brValue_calls n g hg B pre tv v W (by omega) (by omega) (by omega) hp (ht.ext h) (hv.ext h))
    have KE := Lib.hid (keeps_end (n := n) (g := g) (A := A) (B := B) (pre := pre) (by omega))
    obtain ⟨AA, cc, rfl, _⟩ := hv.2
    obtain ⟨ad, c', bd, cc', rfl, _, _⟩ := ht
    rw [nats_length] at *
    have q1 : ((pre.length : Int) == ((A.carets : Int) + 1)) = true := by rw [beq_iff_eq]; omega
    have hA' : (0 : Int) ≤ A.carets ∧ (A.carets : Int) ≤ 8 := by omega
    clear hl hp hv hg hAB hA
    generalize val g A pre = x at *
    generalize val g B pre = y at *
    have KK : Hid ((((x : Nat) : Int) == ((y : Nat) : Int)) = true ↔ Keeps n g A B pre) := by show _ ↔ _; rw [KE.out, beq_iff_eq]; omega
    generalize tx A = a at *
    generalize tx B = b at *
    go_enter Try.func85, Try.ntmps85
    go_wp2_with fail
    generalize w.alloc (.cells #[.string a, .string b] 25) = W at *
    refine (C1.out _).mono ?_
    rintro e w1 ⟨rfl, rfl⟩
    go_wp2_with fail
    go_quiet (first
      | (go_at_call_of 98 (Value.string a); exact Calls.quiet_of (C2.out _ (X1.out.drewN _)))
      | (go_at_call_of 98 (Value.string b); exact Calls.quiet_of (C3.out _ (X1.out.drewN _)))
      | fail)
    go_wp2_with fail
    go_ret
    exact ⟨_, rfl, KK.out, X1.out.drewN _⟩
  | succ d ih =>
    intro pre tv v w hl hp ht hv
    have X1 := Lib.hid ((Ext.refl w).alloc (.cells #[.string (tx A), .string (tx B)] 25))
    have B0 := Lib.hid (heap_alloc_new w (.cells #[.string (tx A), .string (tx B)] 25))
    obtain ⟨c0, c1⟩ := cells_of B0.out
    have C1 := Lib.hid (fun W => trCarets_tree A (by omega) W)
    have C2 := Lib.hid (fun W (h : Ext w W) => l1Own_calls (pre.map fun (n : Nat) => (n : Int)) (by simp; omega) v W ((hv.ext h).1))
    have C3 := Lib.hid (fun x (hx : x < n) u W (h : Ext w W) hu => ih (pre ++ [x]) tv u W (by simp; omega) (lt_snoc hp hx) (ht.ext h) hu)
    have KS := Lib.hid (keeps_step (n := n) (g := g) (A := A) (B := B) (pre := pre) (by omega))
    have LL : Hid (((ints (pre.map fun (n : Nat) => (n : Int))).length + (ints [(0 : Int)]).length) * 8 ≤ 140737488355328) := by show _ ≤ _; rw [ints_length, ints_length]; simp; omega
    obtain ⟨AA, cc, rfl, _⟩ := hv.2
    obtain ⟨ad, c', bd, cc', rfl, _, _⟩ := ht
    rw [nats_length] at *
    have q1 : ((pre.length : Int) == ((A.carets : Int) + 1)) = false := by rw [beq_eq_false_iff_ne]; omega
    have hA' : (0 : Int) ≤ A.carets ∧ (A.carets : Int) ≤ 8 := by omega
    have hn' : (n : Int) ≤ 4 := by omega
    clear hl hp hv hg hAB hA ih
    generalize tx A = a at *
    generalize tx B = b at *
    go_enter Try.func85, Try.ntmps85
    go_wp2_with fail
    generalize w.alloc (.cells #[.string a, .string b] 25) = W at *
    refine (C1.out _).mono ?_
    rintro e w1 ⟨rfl, rfl⟩
    go_wp2_with fail
    go_loopw [28] (fun i wr => ∃ k : Nat, k ≤ n ∧ i = .int .i64 k ∧ Hid (∀ x, x < k → Keeps n g A B (pre ++ [x])) ∧ Hid (wr.heap[w.heap.size]? = some (.cells #[.string a, .string b] 25)) ∧ Hid (Ext w wr)) (fun i _ => n - (intOf i).toNat)
    case atStart => exact ⟨0, Nat.zero_le _, rfl, (fun x h => absurd h (Nat.not_lt_zero _)), B0.out, X1.out⟩
    case round =>
      obtain ⟨k, hk, rfl, HK, HB, HX⟩ := hrel
      obtain ⟨c0, c1⟩ := cells_of HB.out
      by_cases hlt : k < n
      · have h0 : (0 : Int) ≤ k := by omega
        have h1 : (k : Int) < n := by omega
        have HLT := Lib.hid hlt
        have LL2 : Hid (((ints (pre.map fun (n : Nat) => (n : Int))).length + (ints [(k : Int)]).length) * 8 ≤ 140737488355328) := LL.out
        have RB : Hid (∀ W : World, Reads (W.alloc (.cells #[.int .i64 k] 3)) (.slice (some ⟨W.heap.size, 0, none⟩) 1 1) (ints [(k : Int)])) := fun W => (Own.lit W 0 3 #[.int .i64 k] (Nat.zero_le _) (by show 1 ≤ maxLen; decide)).reads
        have XL := Lib.hid (((Ext.refl wr).alloc (.cells #[.int .i64 k] 3)).drew)
        have NE : Hid (ints (pre.map fun (n : Nat) => (n : Int)) ++ ints [(k : Int)] = nats (pre ++ [k])) := by simp [Hid, nats, ints]
        go_wp2_with fail
        go_region_held3 (fun w' => w'.cell? ⟨w.heap.size, 0, none⟩ = some (.string a) ∧ w'.cell? ⟨w.heap.size, 1, none⟩ = some (.string b) ∧ Ext wr w')
          (first | with_reducible exact cells2 c0 c1 (Ext.refl _).drew | with_reducible exact cells2 c0 c1 x5 | with_reducible exact cells2 c0 c1 x4 | with_reducible exact cells2 c0 c1 (x2.alloc _) | with_reducible exact cells2 c0 c1 x2 | with_reducible exact cells2 c0 c1 XL.out | fail)
          (first
            | (go_at_call 158; refine (C2.out _ (HX.out.trans (by first | with_reducible exact XL.out | with_reducible exact (Ext.refl wr).drew))).mono ?_; rintro e w2 ⟨u2, rfl, o2, hx2⟩; have x2 : Ext wr w2 := (by first | with_reducible exact XL.out.trans hx2 | with_reducible exact (Ext.refl wr).drew.trans hx2); have o2 : Own w2 wr.heap.size _ _ _ := o2.mono (by simp); obtain ⟨A2, c2', rfl, _, _⟩ := o2.reads)
            | (refine step_app (by rfl) (.tmp 34) (.tmp 36) 32 (by rfl) wr.heap.size 3 (.int .i64 0) 8 Try.underlying32 infoInt rfl (by omega) _ _ (ints (pre.map fun (n : Nat) => (n : Int))) (ints [(k : Int)]) (by rfl) (by rfl) (o2.ext ((Ext.refl _).alloc _)) (RB.out w2) (ints_one _) LL2.out (x2.alloc _).size ?_; intro v4 w4 o4 g4 _; have x4 := (x2.alloc (.cells #[.int .i64 k] 3)).grown g4 o2.lo; obtain ⟨A4, c4, rfl, _, _⟩ := o4.reads)
            | (refine step_app (by rfl) (.tmp 34) (.tmp 36) 32 (by rfl) wr.heap.size 3 (.int .i64 0) 8 Try.underlying32 infoInt rfl (by omega) _ _ (ints (pre.map fun (n : Nat) => (n : Int))) (ints [(k : Int)]) (by rfl) (by rfl) o2 (((RB.out wr).ext (Ext.refl _).drew).ext hx2) (ints_one _) LL2.out x2.size ?_; intro v4 w4 o4 g4 _; have x4 := x2.grown g4 o2.lo; obtain ⟨A4, c4, rfl, _, _⟩ := o4.reads)
            | (go_at_call 85; refine (C3.out k HLT.out _ _ (HX.out.trans x4) (by rw [← NE.out, ← List.length_append]; exact o4.rc)).mono ?_; rintro e w5 ⟨bb, rfl, hb, hx5⟩; have x5 := x4.trans hx5)
            | fail)
        all_goals
          have X5 := Lib.hid (HX.out.trans x5)
          have HB5 := Lib.hid (x5.at HB.out)
          have KB := Lib.hid hb.out
          clear o2 o4 g4 x2 x4 x5 hx2 hx5 hb c0 c1
          cases bb with
          | true =>
            have HK2 : Hid (∀ x, x < k + 1 → Keeps n g A B (pre ++ [x])) := by
              intro x hx
              rcases Nat.lt_or_eq_of_le (Nat.lt_succ_iff.1 hx) with hx | hx
              · exact HK.out x hx
              · rw [hx]; exact KB.out.1 rfl
            go_wp2_with fail
            exact ⟨⟨k + 1, by omega, by go_num, HK2.out, HB5.out, X5.out⟩, by simp [intOf]; omega⟩
          | false =>
            have NK : Hid (¬ Keeps n g A B pre) := fun h => by have := KB.out.2 (KS.out.1 h k HLT.out); cases this
            go_wp2_with fail
            go_ret
            exact ⟨false, rfl, ⟨(fun h => by cases h), (fun h => absurd h NK.out)⟩, X5.out⟩
      · have h1 : (n : Int) ≤ k := by omega
        have YK : Hid (Keeps n g A B pre) := KS.out.2 fun x hx => HK.out x (by omega)
        go_wp2_with fail
        go_ret
        exact ⟨true, rfl, ⟨fun _ => YK.out, fun _ => rfl⟩, HX.out⟩
end Go.Proofs.Ytpmmajfdcicjiaa.N
/- Does a table keep the values of a pair: the program, and the law. -/
namespace Go.Proofs.Ytpmmajfdcicjiaa.N
open Go.RowKit
set_option linter.unusedVariables false
set_option linter.unusedSimpArgs false

def KGood (A B : Tr) (s t : ByteArray) (xss : List (List Int)) : Prop := s = tx A ∧ t = tx B ∧ A.carets = B.carets ∧ B.carets ≤ 4 ∧ Tab xss
def GivesTT (w : World) (a b : Bool) (e : Ending) (w' : World) : Prop := e = .returned (.tuple #[.bool a, .bool b]) ∧ Ext w w'
theorem nats_set (ys : List Nat) (i y : Nat) : (nats ys).set i (.int .i64 (y : Nat)) = nats (ys.set i y) := by simp [nats, ints, List.map_set]
theorem nats_zero (m : Nat) : List.replicate m (Value.int .i64 0) = nats (List.replicate m 0) := by simp [nats, ints]
theorem take_set {ys : List Nat} {i y : Nat} (hi : i < ys.length) : (ys.set i y).take (i + 1) = ys.take i ++ [y] := by
  rw [List.take_add_one, List.getElem?_set_self hi, List.take_set_of_le (Nat.le_refl _)]; rfl
theorem pow_small {n m : Nat} (hn : n ≤ 4) (hm : m ≤ 5) : n ^ m ≤ 1024 := by
  have h1 : n ^ m ≤ 4 ^ m := Nat.pow_le_pow_left hn m
  have h2 : 4 ^ m ≤ 4 ^ 5 := Nat.pow_le_pow_right (by decide) hm
  exact Nat.le_trans h1 h2
set_option maxHeartbeats 6400000 in
set_option maxRecDepth 100000 in
theorem implKV_yes (A B : Tr) (s t : ByteArray) (xss : List (List Int)) (hl : xss.length + total xss ≤ 1048576) (h : KGood A B s t xss) (b : Bool) (hb : b = true ↔ Keeps xss.length (gOf xss) A B []) (tv : Value) (w : World) (ht : ReadsM w tv xss) :
    Calls Try.prog 11 #[.agg #[.string s, .string t], tv] w (GivesTT w b true) := by
  obtain ⟨rfl, rfl, hAB, hB, hT⟩ := h
  have X0 := Lib.hid ((Ext.refl w).alloc (.cells #[.string (tx A), .string (tx B)] 25))
  have C1 := Lib.hid (fun W => pairOf_yes A B hAB (by omega) W)
  have C2 := Lib.hid (fun W (h : Ext w W) => isTable_calls xss hl tv W (ht.ext h))
  rw [decide_eq_true hT] at C2
  have C3 := Lib.hid (fun p W h => carets_calls A p W (by omega) h)
  have C4 := Lib.hid (fun p W h => leaves_calls A p W (by omega) h)
  have C5 := Lib.hid (fun ys v p W (h : Ext w W) (hl : ys.length = A.carets + 1) hy hr hv => value_calls xss.length (gOf xss) (fun i j => gOf_lt hT) A p ys tv v W (by omega) (by omega) hy hr ((ht.ext h).tab hT) hv)
  have C6 := Lib.hid (fun ys v p W (h : Ext w W) (hl : ys.length = A.carets + 1) hy hr hv => value_calls xss.length (gOf xss) (fun i j => gOf_lt hT) B p ys tv v W (by omega) (by omega) hy hr ((ht.ext h).tab hT) hv)
  have KD := Lib.hid (hb.trans (keeps_dig (n := xss.length) hT.1.1 (g := gOf xss) (A := A) (B := B)))
  have DL := Lib.hid (dig_lt (n := xss.length) hT.1.1 (A.carets + 1))
  obtain ⟨A', c', rfl, _⟩ := ht.open
  have hn : xss.length ≤ 4 := hT.1.2
  have hn1 : 1 ≤ xss.length := hT.1.1
  have PW := Lib.hid (pow_small hn (show A.carets + 1 ≤ 5 by omega))
  have hA' : (0 : Int) ≤ A.carets ∧ (A.carets : Int) ≤ 4 := by omega
  have AC : Hid (A.carets ≤ 4) := by show _ ≤ _; omega
  generalize gOf xss = g at *
  generalize xss.length = n at *
  unfold GivesTT
  generalize tx A = a at *
  generalize tx B = b' at *
  clear hAB hB hT ht hb hl
  have n1 : (1 : Int) ≤ n := by omega
  have n4 : (n : Int) ≤ 4 := by omega
  have nz : ((n : Int) == 0) = false := by rw [beq_eq_false_iff_ne]; omega
  have nz2 : ¬ ((n : Int) = 0) := by omega
  go_enter Try.func11, Try.ntmps11
  go_wp2_with fail
  generalize w.alloc (.cells #[.string a, .string b'] 25) = W at *
  refine (C1.out _).mono ?_
  rintro e w1 ⟨p1, p2, rfl, rA, rB, x1⟩
  have xa := (Ext.refl w1).alloc (.cells #[.pointer p1, .pointer p2] 93)
  have RA := Lib.hid (rA.ext xa)
  have RB := Lib.hid (rB.ext xa)
  have X1 := Lib.hid (X0.out.trans (x1.trans xa))
  have HB := Lib.hid (heap_alloc_new w1 (.cells #[.pointer p1, .pointer p2] 93))
  obtain ⟨d0, d1⟩ := cells_of HB.out
  clear rA rB x1 xa
  go_wp2_with fail
  generalize w1.alloc (.cells #[.pointer p1, .pointer p2] 93) = W1 at *
  refine (C2.out _ X1.out).mono ?_
  rintro e w2 ⟨rfl, rfl⟩
  go_wp2_with fail
  refine (C3.out _ _ RA.out).mono ?_
  rintro e w2 ⟨rfl, n2, rfl⟩
  have xd : Ext W1 (W1.drewN n2) := (Ext.refl _).drewN _
  have RA := Lib.hid (RA.out.ext xd)
  have RB := Lib.hid (RB.out.ext xd)
  have X1 := Lib.hid (X1.out.trans xd)
  have HB := Lib.hid (xd.at HB.out)
  obtain ⟨d0, d1⟩ := cells_of HB.out
  clear xd
  generalize W1.drewN n2 = W2 at *
  go_wp2_with fail
  refine (C4.out _ _ RA.out).mono ?_
  rintro e w3 ⟨rfl, n3, rfl⟩
  have xd : Ext W2 (W2.drewN n3) := (Ext.refl _).drewN _
  have RA := Lib.hid (RA.out.ext xd)
  have RB := Lib.hid (RB.out.ext xd)
  have X1 := Lib.hid (X1.out.trans xd)
  have HB := Lib.hid (xd.at HB.out)
  obtain ⟨d0, d1⟩ := cells_of HB.out
  clear xd
  generalize W2.drewN n3 = W3 at *
  go_wp2_with fail
  go_loop [37, 8] (fun i o => ∃ j : Nat, j ≤ A.carets + 1 ∧ i = .int .i64 j ∧ o = .int .i64 ((n ^ j : Nat) : Int)) (fun i _ => A.carets + 1 - (intOf i).toNat)
  case atStart => exact ⟨0, Nat.zero_le _, rfl, by simp⟩
  case round =>
    obtain ⟨j, hj, rfl, rfl⟩ := hrel
    by_cases hlt : j < A.carets + 1
    · have h1 : (j : Int) < (A.carets : Int) + 1 := by omega
      have h0 : (0 : Int) ≤ j := by omega
      have pj := pow_small hn (show j ≤ 5 by have := AC.out; omega)
      have pj1 := pow_small hn (show j + 1 ≤ 5 by have := AC.out; omega)
      have pe : Hid (((n ^ j : Nat) : Int) * (n : Int) = ((n ^ (j + 1) : Nat) : Int)) := by show _ = _; rw [Nat.pow_succ]; exact (Int.natCast_mul _ _).symm
      have pq : (0 : Int) ≤ ((n ^ j : Nat) : Int) := by omega
      have pb1 : (0 : Int) ≤ ((n ^ j : Nat) : Int) * (n : Int) := by rw [pe.out]; omega
      have pb2 : ((n ^ j : Nat) : Int) * (n : Int) ≤ 1024 := by rw [pe.out]; omega
      obtain ⟨x, hx⟩ : ∃ x : Int, x = ((n ^ j : Nat) : Int) := ⟨_, rfl⟩
      rw [← hx] at pe pb1 pb2 pq ⊢
      clear hx pj pj1
      go_wp2_with fail
      exact ⟨⟨j + 1, by omega, by go_num, by first | rw [IntWalk.wrap64_in _ (by omega), pe.out] | rw [pe.out]⟩, by simp [intOf]; omega⟩
    · have h1 : (A.carets : Int) + 1 ≤ j := by omega
      obtain rfl : j = A.carets + 1 := by omega
      have hM := PW.out
      have ML := Lib.hid (fun q => dig_length n (A.carets + 1) q)
      have hmk : ∀ w : World, (Instr.makeSlice 32 (.int .i64 ((A.carets : Int) + 1)) (.int .i64 ((A.carets : Int) + 1))).run Try.prog w = .ok (.slice (some ⟨w.heap.size, 0, none⟩) (A.carets + 1) (A.carets + 1)) (w.alloc (.cells (madeCells #[.int .i64 0] (A.carets + 1)) 3)) := by
        intro w
        have := run_make_row' (P := Try.prog) 32 3 (.int .i64 0) 8 Try.underlying32 infoInt rfl .i64 .i64 (A.carets + 1) (by omega) (by omega) w
        rw [show (((A.carets + 1 : Nat) : Int)) = (A.carets : Int) + 1 from by omega] at this
        exact this
      obtain ⟨m, hm⟩ : ∃ m, m = A.carets + 1 := ⟨_, rfl⟩
      have em : Hid ((A.carets : Int) + 1 = (m : Int)) := by show _ = _; omega
      have hm5 : m ≤ 5 := by omega
      rw [← hm] at hM hmk PW KD DL ML C5 C6 h1
      rw [← hm]
      have HM := Lib.hid hm
      clear hm hlt
      generalize n ^ m = M at *
      have M0 : (0 : Int) ≤ M := by omega
      go_wp2_with fail
      refine (C4.out _ _ RA.out).mono ?_
      rintro e w4 ⟨rfl, n4', rfl⟩
      have xd : Ext W3 (W3.drewN n4') := (Ext.refl _).drewN _
      have RA := Lib.hid (RA.out.ext xd)
      have RB := Lib.hid (RB.out.ext xd)
      have X1 := Lib.hid (X1.out.trans xd)
      have HB := Lib.hid (xd.at HB.out)
      clear xd d0 d1
      generalize W3.drewN n4' = W4 at *
      have OM : Hid (Own (W4.alloc (.cells (madeCells #[.int .i64 0] m) 3)) W4.heap.size 3 (.slice (some ⟨W4.heap.size, 0, none⟩) m m) (nats (List.replicate m 0))) := by
        have := Own.made W4 m (.int .i64 0) 3 W4.heap.size (Nat.le_refl _) (by unfold maxLen; omega)
        rw [nats_zero] at this; exact this
      have XM := Lib.hid ((Ext.refl W4).alloc (.cells (madeCells #[.int .i64 0] m) 3))
      go_wp2_with fail
      go_loopw [49] (fun c wr => ∃ (q : Nat) (zs : List Nat), q ≤ M ∧ c = .int .i64 q ∧ zs.length = m ∧ Hid (Own wr W4.heap.size 3 (.slice (some ⟨W4.heap.size, 0, none⟩) m m) (nats zs)) ∧ Hid (∀ q', q' < q → val g A (dig n m q') = val g B (dig n m q')) ∧ Hid (Ext W4 wr)) (fun c _ => M - (intOf c).toNat)
      case atStart => exact ⟨0, List.replicate m 0, Nat.zero_le _, rfl, by simp, OM.out, (fun q h => absurd h (Nat.not_lt_zero _)), XM.out⟩
      case round =>
        obtain ⟨q, zs, hq, rfl, hz, HO, HQ, HX⟩ := hrel
        by_cases hqM : q < M
        · have q0 : (0 : Int) ≤ q := by omega
          have q1 : (q : Int) < M := by omega
          have HqM := Lib.hid hqM
          go_wp2_with fail
          go_loopw [54, 10] (fun c r wr => ∃ (i : Nat) (ys : List Nat), i ≤ m ∧ c = .int .i64 i ∧ r = .int .i64 ((q / n ^ i : Nat) : Int) ∧ ys.length = m ∧ Hid (ys.take i = dig n i q) ∧ Hid (Own wr W4.heap.size 3 (.slice (some ⟨W4.heap.size, 0, none⟩) m m) (nats ys)) ∧ Hid (Ext W4 wr)) (fun c _ _ => m - (intOf c).toNat)
          case atStart => exact ⟨0, zs, Nat.zero_le _, rfl, by simp, hz, (by simp [Hid, dig]), HO.out, HX.out⟩
          case round =>
            obtain ⟨i, ys, hi, rfl, rfl, hy, HD, HO, HX⟩ := hrel
            by_cases him : i < m
            · have i0 : (0 : Int) ≤ i := by omega
              have i1 : (i : Int) < m := by omega
              have e2 : Hid ((ys.set i (q / n ^ i % n)).take (i + 1) = dig n (i + 1) q) := by show _ = _; rw [take_set (by omega), HD.out, dig_snoc]
              have e3 : Hid (q / n ^ i / n = q / n ^ (i + 1)) := by show _ = _; rw [Nat.div_div_eq_div_mul, Nat.pow_succ]
              have bb : q / n ^ i ≤ q := Nat.div_le_self _ _
              have HO2 := HO.out
              unfold Own at HO2
              rw [nats_length, hy] at HO2
              have f1 : wr.frozen? ⟨W4.heap.size, i, none⟩ = false := World.ownsRow.frozenAt HO2 i
              have c2 : wr.cell? ⟨W4.heap.size, i, none⟩ = some (.int .i64 (ys[i]'(by omega) : Nat)) := by
                rw [World.ownsRow.cellAt HO2 i (by omega), nats_get ys i (by omega)]
              obtain ⟨O3, g3⟩ := World.ownsRow.stored HO2 i (.int .i64 ((q / n ^ i % n : Nat) : Int))
              rw [nats_set] at O3
              have O4 : Hid (Own (wr.setCell ⟨W4.heap.size, i, none⟩ (.int .i64 ((q / n ^ i % n : Nat) : Int))) W4.heap.size 3 (.slice (some ⟨W4.heap.size, 0, none⟩) m m) (nats (ys.set i (q / n ^ i % n)))) := by
                show World.ownsRow _ _ _ _ _ _ _
                rw [nats_length, List.length_set, hy]; exact O3
              have X4 := Lib.hid (HX.out.grown g3 (fun j hj => by cases hj; exact Nat.le_refl _))
              have E5 : Hid (((q / n ^ i : Nat) : Int) % (n : Int) = ((q / n ^ i % n : Nat) : Int)) := rfl
              have E6 : Hid (((q / n ^ i : Nat) : Int) / (n : Int) = ((q / n ^ i / n : Nat) : Int)) := rfl
              have hys := Lib.hid (show (ys.set i (q / n ^ i % n)).length = m by rw [List.length_set]; exact hy)
              generalize ys[i]'(by omega) = old at *
              generalize q / n ^ i % n = y at *
              generalize ys.set i y = ys2 at *
              obtain ⟨z, hz2⟩ : ∃ z, z = q / n ^ i := ⟨_, rfl⟩
              rw [← hz2] at e3 bb E5 E6
              rw [← hz2]
              clear hz2 O3 g3 HO2
              go_wp2_with fail
              refine ⟨⟨i + 1, ys2, by omega, by go_num, ?_, hys.out, e2.out, ?_, ?_⟩, by simp [intOf]; omega⟩
              · have dz := Nat.div_le_self z n
                have dn : (0 : Int) ≤ ((z / n : Nat) : Int) := Int.natCast_nonneg _
                rw [IntWalk.wrap64_in _ (by rw [E6.out]; omega), E6.out, e3.out]
              · have h := O4.out
                rw [← E5.out] at h
                exact h
              · have h := X4.out
                rw [← E5.out] at h
                exact h
            · have i1 : (m : Int) ≤ i := by omega
              obtain rfl : i = m := by omega
              have ED : Hid (ys = dig n i q) := by show _ = _; rw [← HD.out, List.take_of_length_le (by omega)]
              obtain ⟨d0, d1⟩ := cells_of (HX.out.at HB.out)
              have RA' := Lib.hid (RA.out.ext HX.out)
              have RB' := Lib.hid (RB.out.ext HX.out)
              have C5' := Lib.hid (C5.out ys (.slice (some ⟨W4.heap.size, 0, none⟩) i i) p1 wr (X1.out.trans HX.out) (by have := HM.out; omega) (by rw [ED.out]; exact DL.out q) RA'.out HO.out.rc)
              have C6' := Lib.hid (fun W (h : Ext wr W) => C6.out ys (.slice (some ⟨W4.heap.size, 0, none⟩) i i) p2 W ((X1.out.trans HX.out).trans h) (by have := HM.out; omega) (by rw [ED.out]; exact DL.out q) (RB'.out.ext h) (HO.out.ext h).rc)
              rw [ED.out] at C5' C6'
              have VQ : Hid (val g A (dig n i q) = val g B (dig n i q) ↔ val g A (dig n i q) = val g B (dig n i q)) := Iff.rfl
              obtain ⟨xa, hxa⟩ : ∃ x, x = val g A (dig n i q) := ⟨_, rfl⟩
              obtain ⟨xb, hxb⟩ : ∃ x, x = val g B (dig n i q) := ⟨_, rfl⟩
              rw [← hxa] at C5'
              rw [← hxb] at C6'
              have HA := Lib.hid (And.intro hxa hxb)
              clear hxa hxb
              go_wp2_with fail
              refine C5'.out.mono ?_
              rintro e w8 ⟨u8, rfl, _, x8⟩
              have d1 := x8.cell d1
              have X8 := Lib.hid (HX.out.trans x8)
              have O8 := Lib.hid (HO.out.ext x8)
              have Y8 := Lib.hid x8
              clear x8
              go_wp2_with fail
              refine (C6'.out _ Y8.out).mono ?_
              rintro e w9 ⟨u9, rfl, _, x9⟩
              have X9 := Lib.hid (X8.out.trans x9)
              have O9 := Lib.hid (O8.out.ext x9)
              clear x9
              by_cases hxy : xa = xb
              · have t1 : ((xa : Int) != (xb : Int)) = false := by rw [hxy]; simp
                have HQ2 : Hid (∀ q', q' < q + 1 → val g A (dig n i q') = val g B (dig n i q')) := by
                  intro q' h
                  rcases Nat.lt_or_eq_of_le (Nat.lt_succ_iff.1 h) with h | h
                  · exact HQ.out q' h
                  · rw [h, ← HA.out.1, ← HA.out.2]; exact hxy
                clear hxy
                go_wp2_with fail
                exact ⟨⟨q + 1, ys, by have := HqM.out; omega, by go_num, hy, O9.out, HQ2.out, X9.out⟩, by have := HqM.out; simp [intOf]; omega⟩
              · have t1 : ((xa : Int) != (xb : Int)) = true := by rw [bne_iff_ne]; omega
                have EB : Hid (b = false) := by
                  show _ = _
                  cases b with
                  | false => rfl
                  | true => exact absurd (KD.out.1 rfl q HqM.out) (by rw [← HA.out.1, ← HA.out.2]; exact hxy)
                go_wp2_with fail
                go_ret2
                exact ⟨by rw [EB.out]; rfl, X1.out.trans X9.out⟩
        · have q1 : (M : Int) ≤ q := by omega
          obtain rfl : q = M := by omega
          have EB : Hid (b = true) := KD.out.2 HQ.out
          go_wp2_with fail
          go_ret2
          exact ⟨by rw [EB.out]; rfl, X1.out.trans HX.out⟩

set_option maxHeartbeats 3200000 in
set_option maxRecDepth 100000 in
theorem implKV_no (s t : ByteArray) (xss : List (List Int)) (hl : xss.length + total xss ≤ 1048576) (h : ¬ ∃ A B, KGood A B s t xss) (tv : Value) (w : World) (ht : ReadsM w tv xss) :
    Calls Try.prog 11 #[.agg #[.string s, .string t], tv] w (GivesTT w false false) := by
  have X0 := Lib.hid ((Ext.refl w).alloc (.cells #[.string s, .string t] 25))
  have C2 := Lib.hid (fun W (h : Ext w W) => isTable_calls xss hl tv W (ht.ext h))
  obtain ⟨A', c', rfl, _⟩ := ht.open
  clear ht
  unfold GivesTT
  by_cases hg : Good s t
  · obtain ⟨A, B, rfl, rfl, hAB, hB⟩ := hg
    have C1 := Lib.hid (fun W => pairOf_yes A B hAB hB W)
    by_cases hT : Tab xss
    · have h4 : ¬ B.carets ≤ 4 := fun h4 => h ⟨A, B, rfl, rfl, hAB, h4, hT⟩
      rw [decide_eq_true hT] at C2
      have C3 := Lib.hid (fun p W h => carets_calls A p W (by omega) h)
      have h4' : (4 : Int) < A.carets := by omega
      generalize tx A = a at *
      generalize tx B = b' at *
      clear h hAB hB hT h4
      go_enter Try.func11, Try.ntmps11
      go_wp2_with fail
      generalize w.alloc (.cells #[.string a, .string b'] 25) = W at *
      refine (C1.out _).mono ?_
      rintro e w1 ⟨p1, p2, rfl, rA, rB, x1⟩
      have xa := (Ext.refl w1).alloc (.cells #[.pointer p1, .pointer p2] 93)
      have RA := Lib.hid (rA.ext xa)
      have X1 := Lib.hid (X0.out.trans (x1.trans xa))
      obtain ⟨d0, d1⟩ := cells_of (heap_alloc_new w1 (.cells #[.pointer p1, .pointer p2] 93))
      clear rA rB x1 xa
      go_wp2_with fail
      generalize w1.alloc (.cells #[.pointer p1, .pointer p2] 93) = W1 at *
      refine (C2.out _ X1.out).mono ?_
      rintro e w2 ⟨rfl, rfl⟩
      go_wp2_with fail
      refine (C3.out _ _ RA.out).mono ?_
      rintro e w2 ⟨rfl, n2, rfl⟩
      go_wp2_with fail
      go_ret2
      exact ⟨rfl, X1.out.drewN n2⟩
    · rw [decide_eq_false hT] at C2
      generalize tx A = a at *
      generalize tx B = b' at *
      clear h hAB hB hT
      go_enter Try.func11, Try.ntmps11
      go_wp2_with fail
      generalize w.alloc (.cells #[.string a, .string b'] 25) = W at *
      refine (C1.out _).mono ?_
      rintro e w1 ⟨p1, p2, rfl, rA, rB, x1⟩
      have X1 := Lib.hid (X0.out.trans (x1.alloc (.cells #[.pointer p1, .pointer p2] 93)))
      clear rA rB x1
      go_wp2_with fail
      generalize w1.alloc (.cells #[.pointer p1, .pointer p2] 93) = W1 at *
      refine (C2.out _ X1.out).mono ?_
      rintro e w2 ⟨rfl, rfl⟩
      go_wp2_with fail
      go_ret2
      exact ⟨rfl, X1.out⟩
  · have C1 := Lib.hid (fun W => pairOf_no s t hg W)
    clear h hg
    go_enter Try.func11, Try.ntmps11
    go_wp2_with fail
    generalize w.alloc (.cells #[.string s, .string t] 25) = W at *
    refine (C1.out _).mono ?_
    rintro e w1 ⟨p1, p2, rfl, x1⟩
    have X1 := Lib.hid (X0.out.trans (x1.alloc (.cells #[.pointer p1, .pointer p2] 93)))
    clear x1
    go_wp2_with fail
    go_ret2
    exact ⟨rfl, X1.out⟩

set_option maxHeartbeats 3200000 in
set_option maxRecDepth 100000 in
theorem specKV_yes (A B : Tr) (s t : ByteArray) (xss : List (List Int)) (hl : xss.length + total xss ≤ 1048576) (h : KGood A B s t xss) (b : Bool) (hb : b = true ↔ Keeps xss.length (gOf xss) A B []) (tv : Value) (w : World) (ht : ReadsM w tv xss) :
    Calls Try.prog 12 #[.agg #[.string s, .string t], tv] w (GivesTT w b true) := by
  obtain ⟨rfl, rfl, hAB, hB, hT⟩ := h
  have X0 := Lib.hid ((Ext.refl w).alloc (.cells #[.string (tx A), .string (tx B)] 25))
  have HB := Lib.hid (heap_alloc_new w (.cells #[.string (tx A), .string (tx B)] 25))
  have C1 := Lib.hid (fun W => prGood_yes A B hAB (by omega) W)
  have C2 := Lib.hid (fun W (h : Ext w W) => brTable_calls xss hl tv W (ht.ext h))
  rw [decide_eq_true hT] at C2
  have C3 := Lib.hid (fun W => trCarets_tree A (by omega) W)
  have C4 := Lib.hid (fun W (h : Ext w W) => brKeeps_calls xss.length (gOf xss) (fun i j => gOf_lt hT) hT.1.2 A B hAB (by omega) (A.carets + 1) [] tv (.slice none 0 0) W (by simp) (by simp) ((ht.ext h).tab hT) (Own.nil W 0 3).rc)
  obtain ⟨A', c', rfl, _⟩ := ht.open
  have h4 : (A.carets : Int) ≤ 4 ∧ (0 : Int) ≤ A.carets := by omega
  have HBB := Lib.hid hb
  unfold GivesTT
  generalize tx A = a at *
  generalize tx B = b' at *
  clear hAB hB hT ht hb hl
  go_enter Try.func12, Try.ntmps12
  go_wp2_with fail
  generalize w.alloc (.cells #[.string a, .string b'] 25) = W at *
  refine (C1.out _).mono ?_
  rintro e w1 ⟨rfl, x1⟩
  obtain ⟨c0, c1⟩ := cells_of (x1.at HB.out)
  have X1 := Lib.hid (X0.out.trans x1)
  clear x1
  go_wp2_with fail
  refine (C3.out _).mono ?_
  rintro e w2 ⟨rfl, rfl⟩
  go_wp2_with fail
  refine (C2.out _ X1.out).mono ?_
  rintro e w2 ⟨rfl, rfl⟩
  go_wp2_with fail
  refine (C4.out _ X1.out).mono ?_
  rintro e w2 ⟨bb, rfl, hbb, x2⟩
  have X2 := Lib.hid (X1.out.trans x2)
  have EB : Hid (bb = b) := by
    show _ = _
    rw [Bool.eq_iff_iff, hbb.out, HBB.out]
  clear x2 hbb
  go_wp2_with fail
  go_ret2
  exact ⟨by rw [← EB.out]; rfl, X2.out⟩
set_option maxHeartbeats 3200000 in
set_option maxRecDepth 100000 in
theorem specKV_no (s t : ByteArray) (xss : List (List Int)) (hl : xss.length + total xss ≤ 1048576) (h : ¬ ∃ A B, KGood A B s t xss) (tv : Value) (w : World) (ht : ReadsM w tv xss) :
    Calls Try.prog 12 #[.agg #[.string s, .string t], tv] w (GivesTT w false false) := by
  have X0 := Lib.hid ((Ext.refl w).alloc (.cells #[.string s, .string t] 25))
  have HB := Lib.hid (heap_alloc_new w (.cells #[.string s, .string t] 25))
  have C2 := Lib.hid (fun W (h : Ext w W) => brTable_calls xss hl tv W (ht.ext h))
  obtain ⟨A', c', rfl, _⟩ := ht.open
  clear ht
  unfold GivesTT
  by_cases hg : Good s t
  · obtain ⟨A, B, rfl, rfl, hAB, hB⟩ := hg
    have C1 := Lib.hid (fun W => prGood_yes A B hAB hB W)
    have C3 := Lib.hid (fun W => trCarets_tree A (by omega) W)
    by_cases h4 : B.carets ≤ 4
    · have hT : ¬ Tab xss := fun hT => h ⟨A, B, rfl, rfl, hAB, h4, hT⟩
      rw [decide_eq_false hT] at C2
      have h4' : (A.carets : Int) ≤ 4 ∧ (0 : Int) ≤ A.carets := by omega
      generalize tx A = a at *
      generalize tx B = b' at *
      clear h hAB hB hT h4
      go_enter Try.func12, Try.ntmps12
      go_wp2_with fail
      generalize w.alloc (.cells #[.string a, .string b'] 25) = W at *
      refine (C1.out _).mono ?_
      rintro e w1 ⟨rfl, x1⟩
      obtain ⟨c0, c1⟩ := cells_of (x1.at HB.out)
      have X1 := Lib.hid (X0.out.trans x1)
      clear x1
      go_wp2_with fail
      refine (C3.out _).mono ?_
      rintro e w2 ⟨rfl, rfl⟩
      go_wp2_with fail
      refine (C2.out _ X1.out).mono ?_
      rintro e w2 ⟨rfl, rfl⟩
      go_wp2_with fail
      go_ret2
      exact ⟨rfl, X1.out⟩
    · have h4' : (4 : Int) < A.carets := by omega
      generalize tx A = a at *
      generalize tx B = b' at *
      clear h hAB hB h4 C2
      go_enter Try.func12, Try.ntmps12
      go_wp2_with fail
      generalize w.alloc (.cells #[.string a, .string b'] 25) = W at *
      refine (C1.out _).mono ?_
      rintro e w1 ⟨rfl, x1⟩
      obtain ⟨c0, c1⟩ := cells_of (x1.at HB.out)
      have X1 := Lib.hid (X0.out.trans x1)
      clear x1
      go_wp2_with fail
      refine (C3.out _).mono ?_
      rintro e w2 ⟨rfl, rfl⟩
      go_wp2_with fail
      go_ret2
      exact ⟨rfl, X1.out⟩
  · have C1 := Lib.hid (fun W => prGood_no s t hg W)
    clear h hg C2
    go_enter Try.func12, Try.ntmps12
    go_wp2_with fail
    generalize w.alloc (.cells #[.string s, .string t] 25) = W at *
    refine (C1.out _).mono ?_
    rintro e w1 ⟨rfl, x1⟩
    have X1 := Lib.hid (X0.out.trans x1)
    clear x1
    go_wp2_with fail
    go_ret2
    exact ⟨rfl, X1.out⟩
theorem both_KV (s t : ByteArray) (xss : List (List Int)) (hl : xss.length + total xss ≤ 1048576) : ∃ a b, (∀ tv w, ReadsM w tv xss → Calls Try.prog 12 #[.agg #[.string s, .string t], tv] w (GivesTT w a b)) ∧ ∀ tv w, ReadsM w tv xss → Calls Try.prog 11 #[.agg #[.string s, .string t], tv] w (GivesTT w a b) := by
  by_cases h : ∃ A B, KGood A B s t xss
  · obtain ⟨A, B, h⟩ := h
    by_cases k : Keeps xss.length (gOf xss) A B []
    · exact ⟨true, true, specKV_yes A B s t xss hl h true ⟨fun _ => k, fun _ => rfl⟩, implKV_yes A B s t xss hl h true ⟨fun _ => k, fun _ => rfl⟩⟩
    · exact ⟨false, true, specKV_yes A B s t xss hl h false ⟨(fun h => by cases h), (fun h => absurd h k)⟩, implKV_yes A B s t xss hl h false ⟨(fun h => by cases h), (fun h => absurd h k)⟩⟩
  · exact ⟨_, _, specKV_no s t xss hl h, implKV_no s t xss hl h⟩

end Go.Proofs.Ytpmmajfdcicjiaa.N
