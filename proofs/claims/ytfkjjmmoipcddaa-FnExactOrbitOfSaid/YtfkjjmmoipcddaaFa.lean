import Derived.Test.YtfkjjmmoipcddaaBa
import Derived.Test.YtfkjjmmoipcddaaPu
import Derived.Test.YtfkjjmmoipcddaaSl
import Derived.Test.YtfkjjmmoipcddaaProg
import Derived.Test.YtfkjjmmoipcddaaTs
import Derived.Test.YtfkjjmmoipcddaaWl
import Derived.Test.YtfkjjmmoipcddaaVt
import Derived.Deep.LoopGhost
import Derived.Deep.RegionHeld3
/- Fractions: the small functions. -/
namespace Go.Proofs.Ytfkjjmmoipcddaa.N
open Go.RowKit
set_option linter.unusedVariables false
set_option linter.unusedSimpArgs false

/-- The sums that math/bits.OnesCount64 builds. -/
def pc1 (n : Int) : Int := IntKind.u64.wrap (bits BinOp.and IntKind.u64 (n / 2) 6148914691236517205 + bits BinOp.and IntKind.u64 n 6148914691236517205)
def pc2 (n : Int) : Int := IntKind.u64.wrap (bits BinOp.and IntKind.u64 (n / 4) 3689348814741910323 + bits BinOp.and IntKind.u64 n 3689348814741910323)
def pc3 (n : Int) : Int := bits BinOp.and IntKind.u64 (IntKind.u64.wrap (n / 16 + n)) 1085102592571150095
def pc4 (n : Int) : Int := IntKind.u64.wrap (n + n / 256)
def pc5 (n : Int) : Int := IntKind.u64.wrap (n + n / 65536)
def pc6 (n : Int) : Int := IntKind.u64.wrap (n + n / 4294967296)
def popc (n : Int) : Int := bits BinOp.and IntKind.i64 (wrap64 (pc6 (pc5 (pc4 (pc3 (pc2 (pc1 n))))))) 127
def isP2 (n : Nat) : Bool := (List.range 11).any fun k => 2 ^ k == n
theorem popc_all : ((List.range 1025).all fun n => (popc (n : Int) == 1) == isP2 n) = true := by kernel_rfl
theorem popc_eq (n : Nat) (h : n ≤ 1024) : (popc n == 1) = isP2 n := by
  have := List.all_eq_true.1 popc_all n (List.mem_range.2 (by omega))
  simpa using this
theorem isP2_iff (n : Nat) : isP2 n = true ↔ ∃ k, k ≤ 10 ∧ n = 2 ^ k := by
  unfold isP2
  rw [List.any_eq_true]
  constructor
  · rintro ⟨k, hk, h⟩
    exact ⟨k, by have := List.mem_range.1 hk; omega, (by simpa using h : 2 ^ k = n).symm⟩
  · rintro ⟨k, hk, rfl⟩
    exact ⟨k, List.mem_range.2 (by omega), by simp⟩

set_option maxHeartbeats 1600000 in
theorem ones64 (n : Nat) (hn : n ≤ 1024) (w : World) :
    Calls Try.prog 180 #[.int .u64 n] w fun e w' => e = .returned (.int .i64 (popc n)) ∧ w = w' := by
  go_enter Try.func180, Try.ntmps180
  go_wp2_with fail
  go_ret
  exact ⟨rfl, rfl⟩
theorem ones_calls (n : Nat) (hn : n ≤ 1024) (w : World) :
    Calls Try.prog 148 #[.int .u64 n] w fun e w' => e = .returned (.int .i64 (popc n)) ∧ w = w' := by
  have C1 := Lib.hid (fun W => ones64 n hn W)
  generalize popc n = p at *
  go_enter Try.func148, Try.ntmps148
  go_wp2_with fail
  refine (C1.out _).mono ?_
  rintro e w1 ⟨rfl, rfl⟩
  go_wp2_with fail
  go_ret
  exact ⟨rfl, rfl⟩

/-- A fraction: a power of two up to 1024 below, a number from 0 to it above, odd but over 1. -/
def goodB (n d : Int) : Bool := decide (1 ≤ d ∧ d ≤ 1024) && isP2 d.toNat && decide (0 ≤ n ∧ n ≤ d) && (d == 1 || n % 2 == 1)
theorem goodB_far {n d : Int} (h : ¬ (1 ≤ d ∧ d ≤ 1024)) : goodB n d = false := by simp [goodB, h]
theorem goodB_two {n : Int} {c : Nat} (h : isP2 c = false) : goodB n c = false := by simp [goodB, h]
theorem goodB_num {n d : Int} (h : ¬ (0 ≤ n ∧ n ≤ d)) : goodB n d = false := by
  unfold goodB
  rw [decide_eq_false h]; simp
theorem goodB_in {n : Int} {c : Nat} (h1 : 1 ≤ c) (h2 : c ≤ 1024) (h3 : isP2 c = true) (h4 : 0 ≤ n ∧ n ≤ (c : Int)) : goodB n c = ((c : Int) == 1 || n % 2 == 1) := by
  unfold goodB
  rw [decide_eq_true (by omega : (1 : Int) ≤ c ∧ (c : Int) ≤ 1024), decide_eq_true h4, Int.toNat_natCast, h3]; simp

set_option maxHeartbeats 3200000 in
set_option maxRecDepth 100000 in
theorem isFraction_calls (n d : Int) (w : World) :
    Calls Try.prog 102 #[.agg #[.int .i64 n, .int .i64 d]] w fun e w' => e = .returned (.bool (goodB n d)) ∧ Ext w w' := by
  have X0 := Lib.hid ((Ext.refl w).alloc (.cells #[.int .i64 n, .int .i64 d] 61))
  obtain ⟨c0, c1⟩ := cells_of (heap_alloc_new w (.cells #[.int .i64 n, .int .i64 d] 61))
  by_cases hd : 1 ≤ d ∧ d ≤ 1024
  · obtain ⟨c, rfl⟩ : ∃ c : Nat, d = c := ⟨d.toNat, by omega⟩
    have C1 := Lib.hid (fun W => ones_calls c (by omega) W)
    have PE := popc_eq c (by omega)
    have wr : IntKind.u64.wrap (c : Int) = c := by simp [IntKind.wrap, IntKind.bits, IntKind.signed]; omega
    cases hp : isP2 c with
    | false =>
      have HE : Hid (goodB n c = false) := goodB_two hp
      rw [hp] at PE
      clear hp
      generalize popc c = q at *
      have p2 : (q != 1) = true := by rw [bne, PE]; rfl
      have p3 : ¬ q = 1 := by simpa using PE
      go_enter Try.func102, Try.ntmps102
      go_wp2_with fail
      generalize w.alloc (.cells #[.int .i64 n, .int .i64 c] 61) = W at *
      refine (C1.out _).mono ?_
      rintro e w1 ⟨rfl, rfl⟩
      go_wp2_with fail
      go_ret
      exact ⟨by rw [HE.out]; rfl, X0.out⟩
    | true =>
      rw [hp] at PE
      have PE : popc c = 1 := by simpa using PE
      rw [PE] at C1
      clear PE
      by_cases hn : 0 ≤ n ∧ n ≤ (c : Int)
      · have HE := Lib.hid (goodB_in (by omega) (by omega) hp hn)
        clear hp
        cases t1 : ((c : Int) == 1) with
        | true =>
          rw [t1] at HE
          go_enter Try.func102, Try.ntmps102
          go_wp2_with fail
          generalize w.alloc (.cells #[.int .i64 n, .int .i64 c] 61) = W at *
          refine (C1.out _).mono ?_
          rintro e w1 ⟨rfl, rfl⟩
          go_wp2_with fail
          go_ret
          exact ⟨by rw [HE.out]; rfl, X0.out⟩
        | false =>
          rw [t1] at HE
          go_enter Try.func102, Try.ntmps102
          go_wp2_with fail
          generalize w.alloc (.cells #[.int .i64 n, .int .i64 c] 61) = W at *
          refine (C1.out _).mono ?_
          rintro e w1 ⟨rfl, rfl⟩
          go_wp2_with fail
          go_ret
          exact ⟨by rw [HE.out]; rfl, X0.out⟩
      · have HE := Lib.hid (goodB_num hn)
        clear hp
        by_cases h0 : n < 0
        · go_enter Try.func102, Try.ntmps102
          go_wp2_with fail
          generalize w.alloc (.cells #[.int .i64 n, .int .i64 c] 61) = W at *
          refine (C1.out _).mono ?_
          rintro e w1 ⟨rfl, rfl⟩
          go_wp2_with fail
          go_ret
          exact ⟨by rw [HE.out]; rfl, X0.out⟩
        · have h1 : (c : Int) < n := by omega
          go_enter Try.func102, Try.ntmps102
          go_wp2_with fail
          generalize w.alloc (.cells #[.int .i64 n, .int .i64 c] 61) = W at *
          refine (C1.out _).mono ?_
          rintro e w1 ⟨rfl, rfl⟩
          go_wp2_with fail
          go_ret
          exact ⟨by rw [HE.out]; rfl, X0.out⟩
  · have HE := Lib.hid (goodB_far (n := n) hd)
    by_cases h1 : d < 1
    · go_enter Try.func102, Try.ntmps102
      go_wp2_with fail
      go_ret
      exact ⟨by rw [HE.out]; rfl, X0.out⟩
    · have h2 : 1024 < d := by omega
      go_enter Try.func102, Try.ntmps102
      go_wp2_with fail
      go_ret
      exact ⟨by rw [HE.out]; rfl, X0.out⟩

theorem half_all : ((List.range 1025).all fun c => c ≤ 1 || (if c % 2 == 1 then isP2 c == false else isP2 c == isP2 (c / 2))) = true := by kernel_rfl
theorem isP2_odd {c : Nat} (h1 : 1 < c) (h2 : c ≤ 1024) (h : c % 2 = 1) : isP2 c = false := by
  have := List.all_eq_true.1 half_all c (List.mem_range.2 (by omega))
  simpa [h, show ¬ c ≤ 1 by omega] using this
theorem isP2_even {c : Nat} (h1 : 1 < c) (h2 : c ≤ 1024) (h : ¬ c % 2 = 1) : isP2 c = isP2 (c / 2) := by
  have := List.all_eq_true.1 half_all c (List.mem_range.2 (by omega))
  simpa [h, show ¬ c ≤ 1 by omega] using this
set_option maxHeartbeats 3200000 in
set_option maxRecDepth 100000 in
theorem mpGood_calls (n d : Int) (w : World) :
    Calls Try.prog 99 #[.agg #[.int .i64 n, .int .i64 d]] w fun e w' => e = .returned (.bool (goodB n d)) ∧ Ext w w' := by
  have X0 := Lib.hid ((Ext.refl w).alloc (.cells #[.int .i64 n, .int .i64 d] 61))
  obtain ⟨c0, c1⟩ := cells_of (heap_alloc_new w (.cells #[.int .i64 n, .int .i64 d] 61))
  have C1 := Lib.hid (fun W => l1In_calls d 1 1024 W)
  have C2 := Lib.hid (fun W => l1In_calls n 0 d W)
  by_cases hd : 1 ≤ d ∧ d ≤ 1024
  · obtain ⟨c, rfl⟩ : ∃ c : Nat, d = c := ⟨d.toNat, by omega⟩
    rw [decide_eq_true hd] at C1
    by_cases hn : 0 ≤ n ∧ n ≤ (c : Int)
    · rw [decide_eq_true hn] at C2
      have HG : Hid (isP2 c = true → goodB n c = ((c : Int) == 1 || n % 2 == 1)) := fun h => goodB_in (by omega) (by omega) h hn
      have HN : Hid (isP2 c = false → goodB n c = false) := goodB_two
      go_enter Try.func99, Try.ntmps99
      go_wp2_with fail
      generalize w.alloc (.cells #[.int .i64 n, .int .i64 c] 61) = W at *
      refine (C1.out _).mono ?_
      rintro e w1 ⟨rfl, rfl⟩
      go_wp2_with fail
      refine (C2.out _).mono ?_
      rintro e w1 ⟨rfl, rfl⟩
      go_wp2_with fail
      go_loop [3] (fun v => ∃ b : Nat, 1 ≤ b ∧ b ≤ 1024 ∧ v = .int .i64 b ∧ Hid (isP2 c = isP2 b)) (fun v => (intOf v).toNat)
      case atStart => exact ⟨c, by omega, by omega, rfl, rfl⟩
      case round =>
        obtain ⟨b, hb1, hb2, rfl, HB⟩ := hrel
        by_cases hb : 1 < b
        · have g1 : (1 : Int) < b := by omega
          by_cases ho : b % 2 = 1
          · have HE : Hid (goodB n c = false) := HN.out (by rw [HB.out]; exact isP2_odd hb hb2 ho)
            have t1 : ((b : Int) % 2 == 1) = true := by rw [beq_iff_eq]; omega
            clear ho
            go_wp2_with fail
            go_ret
            exact ⟨by rw [HE.out]; rfl, X0.out⟩
          · have HB2 : Hid (isP2 c = isP2 (b / 2)) := by show _ = _; rw [HB.out]; exact isP2_even hb hb2 ho
            have t1 : ((b : Int) % 2 == 1) = false := by rw [beq_eq_false_iff_ne]; omega
            have hb3 : 1 ≤ b / 2 := by omega
            have hb4 : b / 2 < b := by omega
            have q0 : (b : Int).tdiv 2 = ((b / 2 : Nat) : Int) := by rw [Int.tdiv_eq_ediv_of_nonneg (by omega)]; omega
            generalize b / 2 = h at *
            have hb5 : (h : Int) ≤ 1024 := by omega
            clear ho
            go_wp2_with fail
            exact ⟨⟨h, by omega, by omega, by go_num, HB2.out⟩, by simp [intOf]; omega⟩
        · obtain rfl : b = 1 := by omega
          have HE := Lib.hid (HG.out (by rw [HB.out]; rfl))
          have g1 : ¬ (1 : Int) < (1 : Nat) := by omega
          cases t1 : ((c : Int) == 1) with
          | true =>
            rw [t1] at HE
            go_wp2_with fail
            go_ret
            exact ⟨by rw [HE.out]; rfl, X0.out⟩
          | false =>
            rw [t1] at HE
            go_wp2_with fail
            go_ret
            exact ⟨by rw [HE.out]; rfl, X0.out⟩
    · rw [decide_eq_false hn] at C2
      have HE := Lib.hid (goodB_num hn)
      go_enter Try.func99, Try.ntmps99
      go_wp2_with fail
      generalize w.alloc (.cells #[.int .i64 n, .int .i64 c] 61) = W at *
      refine (C1.out _).mono ?_
      rintro e w1 ⟨rfl, rfl⟩
      go_wp2_with fail
      refine (C2.out _).mono ?_
      rintro e w1 ⟨rfl, rfl⟩
      go_wp2_with fail
      go_ret
      exact ⟨by rw [HE.out]; rfl, X0.out⟩
  · rw [decide_eq_false hd] at C1
    have HE := Lib.hid (goodB_far (n := n) hd)
    go_enter Try.func99, Try.ntmps99
    go_wp2_with fail
    generalize w.alloc (.cells #[.int .i64 n, .int .i64 d] 61) = W at *
    refine (C1.out _).mono ?_
    rintro e w1 ⟨rfl, rfl⟩
    go_wp2_with fail
    go_ret
    exact ⟨by rw [HE.out]; rfl, X0.out⟩
end Go.Proofs.Ytfkjjmmoipcddaa.N
