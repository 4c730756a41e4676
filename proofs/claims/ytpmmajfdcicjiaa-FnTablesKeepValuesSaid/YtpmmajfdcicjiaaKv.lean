import Derived.Test.YtpmmajfdcicjiaaBa
import Derived.Test.YtpmmajfdcicjiaaPu
import Derived.Test.YtpmmajfdcicjiaaSl
import Derived.Test.YtpmmajfdcicjiaaProg
import Derived.Test.YtpmmajfdcicjiaaTs
import Derived.Test.YtpmmajfdcicjiaaWl
import Derived.Test.YtpmmajfdcicjiaaWt
import Derived.Test.YtpmmajfdcicjiaaWu
import Derived.Test.YtpmmajfdcicjiaaVt
import Derived.Test.YtpmmajfdcicjiaaVu
import Derived.Test.YtpmmajfdcicjiaaVv
import Derived.Test.YtpmmajfdcicjiaaTn
import Derived.Test.YtpmmajfdcicjiaaTp
import Derived.Test.YtpmmajfdcicjiaaTq
import Derived.Test.YtpmmajfdcicjiaaTr
import Derived.Test.YtpmmajfdcicjiaaTu
import Derived.Test.YtpmmajfdcicjiaaPk
import Derived.Test.YtpmmajfdcicjiaaPp
import Derived.Test.YtpmmajfdcicjiaaSx
import Derived.Test.YtpmmajfdcicjiaaSy
import Derived.Test.YtpmmajfdcicjiaaCw
import Derived.Deep.LoopGhost
import Derived.Deep.QuietTactic
import Derived.BigQuiet
import Derived.Deep.RegionHeld3
import Derived.Deep.OwnRows
/- Does a table keep the values of a pair: the reference. -/
namespace Go.Proofs.Ytpmmajfdcicjiaa.N
open Go.RowKit
set_option linter.unusedVariables false
set_option linter.unusedSimpArgs false

def Keeps (n : Nat) (g : Nat → Nat → Nat) (A B : Tr) (pre : List Nat) : Prop :=
  ∀ zs : List Nat, pre.length + zs.length = A.carets + 1 → (∀ z ∈ zs, z < n) → val g A (pre ++ zs) = val g B (pre ++ zs)
theorem keeps_step {n : Nat} {g : Nat → Nat → Nat} {A B : Tr} {pre : List Nat} (h : pre.length < A.carets + 1) : Keeps n g A B pre ↔ ∀ x, x < n → Keeps n g A B (pre ++ [x]) := by
  constructor
  · intro hk x hx zs hl hz
    have := hk (x :: zs) (by simp at hl ⊢; omega) (by intro z hm; rcases List.mem_cons.1 hm with rfl | hm; exact hx; exact hz z hm)
    simpa using this
  · intro hk zs hl hz
    cases zs with
    | nil => simp at hl; omega
    | cons x zs =>
      have := hk x (hz x List.mem_cons_self) zs (by simp at hl ⊢; omega) (fun z hm => hz z (List.mem_cons_of_mem _ hm))
      simpa using this
theorem keeps_end {n : Nat} {g : Nat → Nat → Nat} {A B : Tr} {pre : List Nat} (h : pre.length = A.carets + 1) : Keeps n g A B pre ↔ val g A pre = val g B pre := by
  constructor
  · intro hk
    have := hk [] (by simpa using h) (by simp)
    simpa using this
  · intro he zs hl _
    have : zs = [] := List.eq_nil_of_length_eq_zero (by omega)
    subst this
    simpa using he
theorem keeps_dig {n : Nat} (hn : 0 < n) {g : Nat → Nat → Nat} {A B : Tr} : Keeps n g A B [] ↔ ∀ q, q < n ^ (A.carets + 1) → val g A (dig n (A.carets + 1) q) = val g B (dig n (A.carets + 1) q) := by
  constructor
  · intro hk q _
    have := hk (dig n (A.carets + 1) q) (by simp [dig_length]) (dig_lt hn _ _)
    simpa using this
  · intro hk zs hl hz
    simp only [List.length_nil, Nat.zero_add] at hl
    obtain ⟨q, hq, e⟩ := dig_all hn zs hz
    rw [hl] at hq e
    have := hk q hq
    rw [e] at this
    simpa using this
theorem lt_snoc {n : Nat} {pre : List Nat} {x : Nat} (hp : ∀ y ∈ pre, y < n) (hx : x < n) : ∀ y ∈ pre ++ [x], y < n := by
  intro y hy
  rcases List.mem_append.1 hy with hy | hy
  · exact hp y hy
  · obtain rfl : y = x := by simpa using hy
    exact hx

set_option maxHeartbeats 1600000 in
theorem l1Own_calls (xs : List Int) (hl : xs.length ≤ 1048576) (v : Value) (w : World) (hv : Reads w v (ints xs)) :
    Calls Try.prog 158 #[v] w fun e w' => ∃ u, e = .returned u ∧ Own w' w.heap.size 3 u (ints xs) ∧ Ext w w' := by
  have ON : Own (w.alloc (.cells #[] 3)) w.heap.size 3 (.slice (some ⟨w.heap.size, 0, none⟩) 0 0) (ints []) := Own.lit w w.heap.size 3 #[] (Nat.le_refl _) (by show 0 ≤ maxLen; decide)
  have RD := hv.ext ((Ext.refl w).alloc (.cells #[] 3))
  have LL : Hid (((ints []).length + (ints xs).length) * 8 ≤ 140737488355328) := by show _ ≤ _; rw [ints_length, ints_length]; simp only [List.length_nil]; omega
  have LX := Lib.hid ((Ext.refl w).alloc (.cells #[] 3)).size
  obtain ⟨AA, cc, rfl, _, _⟩ := hv
  rw [ints_length] at RD ⊢
  go_enter Try.func158, Try.ntmps158
  go_wp2_with (at_builtin; refine wpList_app rfl (.tmp 3) (.tmp 4) 32 rfl w.heap.size 3 (.int .i64 0) 8 Try.underlying32 infoInt rfl (by omega) _ _ _ (ints xs) rfl rfl ON RD (ints_one _) LL.out LX.out ?_; intro v2 w2 o2 g2 _)
  have X2 := Lib.hid (((Ext.refl w).alloc (.cells #[] 3)).grown g2 ON.lo)
  have O2 := Lib.hid o2
  clear o2 g2 ON RD
  go_wp2_with fail
  go_ret
  exact ⟨_, rfl, O2.out, X2.out⟩

set_option maxHeartbeats 6400000 in
set_option maxRecDepth 100000 in
theorem brKeeps_calls (n : Nat) (g : Nat → Nat → Nat) (hg : ∀ i j, i < n → j < n → g i j < n) (hn : n ≤ 4) (A B : Tr) (hAB : A.carets = B.carets) (hA : A.carets ≤ 8) (d : Nat) : ∀ (pre : List Nat) (tv v : Value) (w : World), pre.length + d = A.carets + 1 → (∀ y ∈ pre, y < n) → TabR w tv n g → RC w v (nats pre) →
    Calls Try.prog 85 #[.agg #[.string (tx A), .string (tx B)], tv, v] w fun e w' => ∃ b, e = .returned (.bool b) ∧ Hid (b = true ↔ Keeps n g A B pre) ∧ Ext w w' := by
  induction d with
  | zero =>
    intro pre tv v w hl hp ht hv
    have X1 := Lib.hid ((Ext.refl w).alloc (.cells #[.string (tx A), .string (tx B)] 25))
    obtain ⟨c0, c1⟩ := cells_of (heap_alloc_new w (.cells #[.string (tx A), .string (tx B)] 25))
    have C1 := Lib.hid (fun W => trCarets_tree A (by omega) W)
    have C2 := Lib.hid (fun W (h : Ext w W) => brValue_calls n g hg A pre tv v W (by omega) (by omega) (by omega) hp (ht.ext h) (hv.ext h))
    have C3 := Lib.hid (fun W (h : Ext w W) => brValue_calls n g hg B pre tv v W (by omega) (by omega) (by omega) hp (ht.ext h) (hv.ext h))
    have KE := Lib.hid (keeps_end (n := n) (g := g) (A := A) (B := B) (pre := pre) (by omega))
    obtain ⟨AA, cc, rfl, _⟩ := hv.2
    obtain ⟨ad, c', bd, cc', rfl, _, _⟩ := ht
    rw [nats_length] at *
    have q1 : ((pre.length : Int) == ((A.carets : Int) + 1)) = true := by rw [beq_iff_eq]; omega
    have hA' : (0 : Int) ≤ A.carets ∧ (A.carets : Int) ≤ 8 := by omega
    clear hl hp hv hg hAB hA
    generalize val g A pre = x at *
    generalize val g B pre = y at *
    have KK : Hid ((((x : Nat) : Int) == ((y : Nat) : Int)) = true ↔ Keeps n g A B pre) := by show _ ↔ _; rw [KE.out, beq_iff_eq]; omega
    generalize tx A = a at *
    generalize tx B = b at *
    go_enter Try.func85, Try.ntmps85
    go_wp2_with fail
    generalize w.alloc (.cells #[.string a, .string b] 25) = W at *
    refine (C1.out _).mono ?_
    rintro e w1 ⟨rfl, rfl⟩
    go_wp2_with fail
    go_quiet (first
      | (go_at_call_of 98 (Value.string a); exact Calls.quiet_of (C2.out _ (X1.out.drewN _)))
      | (go_at_call_of 98 (Value.string b); exact Calls.quiet_of (C3.out _ (X1.out.drewN _)))
      | fail)
    go_wp2_with fail
    go_ret
    exact ⟨_, rfl, KK.out, X1.out.drewN _⟩
  | succ d ih =>
    intro pre tv v w hl hp ht hv
    have X1 := Lib.hid ((Ext.refl w).alloc (.cells #[.string (tx A), .string (tx B)] 25))
    have B0 := Lib.hid (heap_alloc_new w (.cells #[.string (tx A), .string (tx B)] 25))
    obtain ⟨c0, c1⟩ := cells_of B0.out
    have C1 := Lib.hid (fun W => trCarets_tree A (by omega) W)
    have C2 := Lib.hid (fun W (h : Ext w W) => l1Own_calls (pre.map fun (n : Nat) => (n : Int)) (by simp; omega) v W ((hv.ext h).1))
    have C3 := Lib.hid (fun x (hx : x < n) u W (h : Ext w W) hu => ih (pre ++ [x]) tv u W (by simp; omega) (lt_snoc hp hx) (ht.ext h) hu)
    have KS := Lib.hid (keeps_step (n := n) (g := g) (A := A) (B := B) (pre := pre) (by omega))
    have LL : Hid (((ints (pre.map fun (n : Nat) => (n : Int))).length + (ints [(0 : Int)]).length) * 8 ≤ 140737488355328) := by show _ ≤ _; rw [ints_length, ints_length]; simp; omega
    obtain ⟨AA, cc, rfl, _⟩ := hv.2
    obtain ⟨ad, c', bd, cc', rfl, _, _⟩ := ht
    rw [nats_length] at *
    have q1 : ((pre.length : Int) == ((A.carets : Int) + 1)) = false := by rw [beq_eq_false_iff_ne]; omega
    have hA' : (0 : Int) ≤ A.carets ∧ (A.carets : Int) ≤ 8 := by omega
    have hn' : (n : Int) ≤ 4 := by omega
    clear hl hp hv hg hAB hA ih
    generalize tx A = a at *
    generalize tx B = b at *
    go_enter Try.func85, Try.ntmps85
    go_wp2_with fail
    generalize w.alloc (.cells #[.string a, .string b] 25) = W at *
    refine (C1.out _).mono ?_
    rintro e w1 ⟨rfl, rfl⟩
    go_wp2_with fail
    go_loopw [28] (fun i wr => ∃ k : Nat, k ≤ n ∧ i = .int .i64 k ∧ Hid (∀ x, x < k → Keeps n g A B (pre ++ [x])) ∧ Hid (wr.heap[w.heap.size]? = some (.cells #[.string a, .string b] 25)) ∧ Hid (Ext w wr)) (fun i _ => n - (intOf i).toNat)
    case atStart => exact ⟨0, Nat.zero_le _, rfl, (fun x h => absurd h (Nat.not_lt_zero _)), B0.out, X1.out⟩
    case round =>
      obtain ⟨k, hk, rfl, HK, HB, HX⟩ := hrel
      obtain ⟨c0, c1⟩ := cells_of HB.out
      by_cases hlt : k < n
      · have h0 : (0 : Int) ≤ k := by omega
        have h1 : (k : Int) < n := by omega
        have HLT := Lib.hid hlt
        have LL2 : Hid (((ints (pre.map fun (n : Nat) => (n : Int))).length + (ints [(k : Int)]).length) * 8 ≤ 140737488355328) := LL.out
        have RB : Hid (∀ W : World, Reads (W.alloc (.cells #[.int .i64 k] 3)) (.slice (some ⟨W.heap.size, 0, none⟩) 1 1) (ints [(k : Int)])) := fun W => (Own.lit W 0 3 #[.int .i64 k] (Nat.zero_le _) (by show 1 ≤ maxLen; decide)).reads
        have XL := Lib.hid (((Ext.refl wr).alloc (.cells #[.int .i64 k] 3)).drew)
        have NE : Hid (ints (pre.map fun (n : Nat) => (n : Int)) ++ ints [(k : Int)] = nats (pre ++ [k])) := by simp [Hid, nats, ints]
        go_wp2_with fail
        go_region_held3 (fun w' => w'.cell? ⟨w.heap.size, 0, none⟩ = some (.string a) ∧ w'.cell? ⟨w.heap.size, 1, none⟩ = some (.string b) ∧ Ext wr w')
          (first | with_reducible exact cells2 c0 c1 (Ext.refl _).drew | with_reducible exact cells2 c0 c1 x5 | with_reducible exact cells2 c0 c1 x4 | with_reducible exact cells2 c0 c1 (x2.alloc _) | with_reducible exact cells2 c0 c1 x2 | with_reducible exact cells2 c0 c1 XL.out | fail)
          (first
            | (go_at_call 158; refine (C2.out _ (HX.out.trans (by first | with_reducible exact XL.out | with_reducible exact (Ext.refl wr).drew))).mono ?_; rintro e w2 ⟨u2, rfl, o2, hx2⟩; have x2 : Ext wr w2 := (by first | with_reducible exact XL.out.trans hx2 | with_reducible exact (Ext.refl wr).drew.trans hx2); have o2 : Own w2 wr.heap.size _ _ _ := o2.mono (by simp); obtain ⟨A2, c2', rfl, _, _⟩ := o2.reads)
            | (refine step_app (by rfl) (.tmp 34) (.tmp 36) 32 (by rfl) wr.heap.size 3 (.int .i64 0) 8 Try.underlying32 infoInt rfl (by omega) _ _ (ints (pre.map fun (n : Nat) => (n : Int))) (ints [(k : Int)]) (by rfl) (by rfl) (o2.ext ((Ext.refl _).alloc _)) (RB.out w2) (ints_one _) LL2.out (x2.alloc _).size ?_; intro v4 w4 o4 g4 _; have x4 := (x2.alloc (.cells #[.int .i64 k] 3)).grown g4 o2.lo; obtain ⟨A4, c4, rfl, _, _⟩ := o4.reads)
            | (refine step_app (by rfl) (.tmp 34) (.tmp 36) 32 (by rfl) wr.heap.size 3 (.int .i64 0) 8 Try.underlying32 infoInt rfl (by omega) _ _ (ints (pre.map fun (n : Nat) => (n : Int))) (ints [(k : Int)]) (by rfl) (by rfl) o2 (((RB.out wr).ext (Ext.refl _).drew).ext hx2) (ints_one _) LL2.out x2.size ?_; intro v4 w4 o4 g4 _; have x4 := x2.grown g4 o2.lo; obtain ⟨A4, c4, rfl, _, _⟩ := o4.reads)
            | (go_at_call 85; refine (C3.out k HLT.out _ _ (HX.out.trans x4) (by rw [← NE.out, ← List.length_append]; exact o4.rc)).mono ?_; rintro e w5 ⟨bb, rfl, hb, hx5⟩; have x5 := x4.trans hx5)
            | fail)
        all_goals
          have X5 := Lib.hid (HX.out.trans x5)
          have HB5 := Lib.hid (x5.at HB.out)
          have KB := Lib.hid hb.out
          clear o2 o4 g4 x2 x4 x5 hx2 hx5 hb c0 c1
          cases bb with
          | true =>
            have HK2 : Hid (∀ x, x < k + 1 → Keeps n g A B (pre ++ [x])) := by
              intro x hx
              rcases Nat.lt_or_eq_of_le (Nat.lt_succ_iff.1 hx) with hx | hx
              · exact HK.out x hx
              · rw [hx]; exact KB.out.1 rfl
            go_wp2_with fail
            exact ⟨⟨k + 1, by omega, by go_num, HK2.out, HB5.out, X5.out⟩, by simp [intOf]; omega⟩
          | false =>
            have NK : Hid (¬ Keeps n g A B pre) := fun h => by have := KB.out.2 (KS.out.1 h k HLT.out); cases this
            go_wp2_with fail
            go_ret
            exact ⟨false, rfl, ⟨(fun h => by cases h), (fun h => absurd h NK.out)⟩, X5.out⟩
      · have h1 : (n : Int) ≤ k := by omega
        have YK : Hid (Keeps n g A B pre) := KS.out.2 fun x hx => HK.out x (by omega)
        go_wp2_with fail
        go_ret
        exact ⟨true, rfl, ⟨fun _ => YK.out, fun _ => rfl⟩, HX.out⟩
end Go.Proofs.Ytpmmajfdcicjiaa.N
