import Derived.Test.YtpmmajfdcicjiaaBa
import Derived.Test.YtpmmajfdcicjiaaPu
import Derived.Test.YtpmmajfdcicjiaaSl
import Derived.Test.YtpmmajfdcicjiaaProg
import Derived.Test.YtpmmajfdcicjiaaWl
import Derived.Test.YtpmmajfdcicjiaaWt
import Derived.Deep.LoopGhost
import Derived.Deep.QuietTactic
import Derived.BigQuiet
/- Is it a table: the program and the reference. -/
namespace Go.Proofs.Ytpmmajfdcicjiaa.N
open Go.RowKit
set_option linter.unusedVariables false
set_option linter.unusedSimpArgs false

def InN (n : Nat) (xs : List Int) : Prop := ∀ x ∈ xs, 0 ≤ x ∧ x < (n : Int)
instance (n : Nat) (xs : List Int) : Decidable (InN n xs) := by unfold InN; infer_instance
def RowN (n : Nat) (xs : List Int) : Prop := xs.length = n ∧ InN n xs
instance (n : Nat) (xs : List Int) : Decidable (RowN n xs) := by unfold RowN; infer_instance
def Tab (xss : List (List Int)) : Prop := (1 ≤ xss.length ∧ xss.length ≤ 4) ∧ ∀ xs ∈ xss, RowN xss.length xs
instance (xss : List (List Int)) : Decidable (Tab xss) := by unfold Tab; infer_instance
theorem all_step {α : Type} {p : α → Prop} {l : List α} {k : Nat} {x : α} (hk : l[k]? = some x) (hx : p x) (h : (∀ y ∈ l, p y) ↔ ∀ y ∈ l.drop k, p y) : (∀ y ∈ l, p y) ↔ ∀ y ∈ l.drop (k + 1), p y := by
  obtain ⟨h1, h2⟩ := List.getElem?_eq_some_iff.1 hk
  rw [h, List.drop_eq_getElem_cons h1, h2]
  simp [hx]
theorem all_not {α : Type} {p : α → Prop} {l : List α} {k : Nat} {x : α} (hk : l[k]? = some x) (hx : ¬ p x) : ¬ ∀ y ∈ l, p y := fun h => hx (h x (List.mem_of_getElem? hk))
theorem all_end {α : Type} {p : α → Prop} {l : List α} {k : Nat} (hk : l.length ≤ k) (h : (∀ y ∈ l, p y) ↔ ∀ y ∈ l.drop k, p y) : ∀ y ∈ l, p y := by
  rw [h, List.drop_eq_nil_of_le hk]; simp

set_option maxHeartbeats 1600000 in
theorem areThings_calls (xs : List Int) (n : Nat) (hn : n < 1000000000) (hl : xs.length < 1000000000) (v : Value) (w : World) (hv : Reads w v (ints xs)) :
    Calls Try.prog 91 #[v, .int .i64 n] w fun e w' => e = .returned (.bool (decide (InN n xs))) ∧ w = w' := by
  obtain ⟨A, c, rfl, _, rd⟩ := hv
  rw [ints_length] at *
  have RD := Lib.hid rd
  clear rd
  go_enter Try.func91, Try.ntmps91
  go_wp2_with fail
  go_loop [9] (fun i => ∃ k : Nat, k ≤ xs.length ∧ i = .int .i64 k ∧ Hid (InN n xs ↔ InN n (xs.drop k))) (fun i => xs.length - (intOf i).toNat)
  case atStart => exact ⟨0, Nat.zero_le _, rfl, Iff.rfl⟩
  case round =>
    obtain ⟨k, hk, rfl, HI⟩ := hrel
    by_cases hlt : k < xs.length
    · obtain ⟨ad, rfl, ca⟩ := RD.out (by omega)
      have hx : xs[k]? = some xs[k] := List.getElem?_eq_getElem hlt
      have c1 := ca k _ (ints_get xs k hlt)
      have h0 : (0 : Int) ≤ k := by omega
      have h1 : (k : Int) < xs.length := by omega
      clear ca
      generalize xs[k] = x at *
      by_cases g1 : x < 0
      · have HE : Hid (decide (InN n xs) = false) := decide_eq_false (all_not hx (by omega))
        go_wp2_with fail
        go_ret
        exact ⟨by rw [HE.out]; rfl, rfl⟩
      · by_cases g2 : (n : Int) ≤ x
        · have HE : Hid (decide (InN n xs) = false) := decide_eq_false (all_not hx (by omega))
          go_wp2_with fail
          go_ret
          exact ⟨by rw [HE.out]; rfl, rfl⟩
        · have HE : Hid (InN n xs ↔ InN n (xs.drop (k + 1))) := all_step hx (by omega) HI.out
          go_wp2_with fail
          exact ⟨⟨k + 1, by omega, by go_num, HE.out⟩, by simp [intOf]; omega⟩
    · have h1 : (xs.length : Int) ≤ k := by omega
      have HE : Hid (decide (InN n xs) = true) := decide_eq_true (all_end (by omega) HI.out)
      go_wp2_with fail
      go_ret
      exact ⟨by rw [HE.out]; rfl, rfl⟩

set_option maxHeartbeats 1600000 in
set_option maxRecDepth 100000 in
theorem isTable_calls (xss : List (List Int)) (hl : xss.length + total xss ≤ 1048576) (v : Value) (w : World) (hv : ReadsM w v xss) :
    Calls Try.prog 78 #[v] w fun e w' => e = .returned (.bool (decide (Tab xss))) ∧ w = w' := by
  obtain ⟨A, c, rfl, _, rd⟩ := hv.open
  have RD := Lib.hid rd
  have HT := Lib.hid hl
  have hnl : xss.length ≤ 1048576 := by omega
  clear rd hv hl
  go_enter Try.func78, Try.ntmps78
  go_wp2_with fail
  go_loop [10] (fun i => ∃ k : Nat, k ≤ xss.length ∧ i = .int .i64 k ∧ Hid ((∀ xs ∈ xss, RowN xss.length xs) ↔ ∀ xs ∈ xss.drop k, RowN xss.length xs)) (fun i => xss.length - (intOf i).toNat)
  case atStart => exact ⟨0, Nat.zero_le _, rfl, Iff.rfl⟩
  case round =>
    obtain ⟨k, hk, rfl, HI⟩ := hrel
    by_cases hlt : k < xss.length
    · obtain ⟨xs, hx⟩ : ∃ xs, xss[k]? = some xs := ⟨_, List.getElem?_eq_getElem hlt⟩
      obtain ⟨ad, B, d, rfl, c1, rd⟩ := RD.out k xs hx
      have h0 : (0 : Int) ≤ k := by omega
      have h1 : (k : Int) < xss.length := by omega
      have hxl : xs.length < 1000000000 := by
        have h1 := total_take xss k xs hx
        have h2 : total xss = total (xss.take (k + 1)) + total (xss.drop (k + 1)) := by unfold total; rw [← List.sum_append, ← List.map_append, List.take_append_drop]
        have := HT.out
        omega
      have CC := Lib.hid (areThings_calls xs xss.length (by omega) hxl (.slice B xs.length d) w rd)
      by_cases e1 : xs.length = xss.length
      · have t1 : ((xs.length : Int) != (xss.length : Int)) = false := by rw [e1]; simp
        by_cases e2 : InN xss.length xs
        · have HE : Hid ((∀ xs ∈ xss, RowN xss.length xs) ↔ ∀ xs ∈ xss.drop (k + 1), RowN xss.length xs) := all_step hx ⟨e1, e2⟩ HI.out
          rw [decide_eq_true e2] at CC
          clear hx rd e1 e2 HI
          go_wp2_with fail
          refine CC.out.mono ?_
          rintro e w1 ⟨rfl, rfl⟩
          go_wp2_with fail
          exact ⟨⟨k + 1, by omega, by go_num, HE.out⟩, by simp [intOf]; omega⟩
        · have HE : Hid (decide (Tab xss) = false) := decide_eq_false (fun h => e2 (h.2 xs (List.mem_of_getElem? hx)).2)
          rw [decide_eq_false e2] at CC
          clear hx rd e1 e2 HI
          go_wp2_with fail
          refine CC.out.mono ?_
          rintro e w1 ⟨rfl, rfl⟩
          go_wp2_with fail
          go_ret
          exact ⟨by rw [HE.out]; rfl, rfl⟩
      · have t1 : ((xs.length : Int) != (xss.length : Int)) = true := by rw [bne_iff_ne]; omega
        have HE : Hid (decide (Tab xss) = false) := decide_eq_false (fun h => e1 (h.2 xs (List.mem_of_getElem? hx)).1)
        clear hx rd e1 HI
        go_wp2_with fail
        go_ret
        exact ⟨by rw [HE.out]; rfl, rfl⟩
    · have h1 : (xss.length : Int) ≤ k := by omega
      have AL := Lib.hid (all_end (by omega) HI.out)
      by_cases g1 : (1 : Int) ≤ xss.length
      · by_cases g2 : (xss.length : Int) ≤ 4
        · have HE : Hid (decide (Tab xss) = true) := decide_eq_true ⟨⟨by omega, by omega⟩, AL.out⟩
          go_wp2_with fail
          go_ret
          exact ⟨by rw [HE.out]; rfl, rfl⟩
        · have HE : Hid (decide (Tab xss) = false) := decide_eq_false (fun h => by have := h.1; omega)
          go_wp2_with fail
          go_ret
          exact ⟨by rw [HE.out]; rfl, rfl⟩
      · have HE : Hid (decide (Tab xss) = false) := decide_eq_false (fun h => by have := h.1; omega)
        go_wp2_with fail
        go_ret
        exact ⟨by rw [HE.out]; rfl, rfl⟩

theorem l1In_calls (x lo hi : Int) (w : World) :
    Calls Try.prog 152 #[.int .i64 x, .int .i64 lo, .int .i64 hi] w fun e w' => e = .returned (.bool (decide (lo ≤ x ∧ x ≤ hi))) ∧ w = w' := by
  by_cases h1 : lo ≤ x
  · by_cases h2 : x ≤ hi
    · rw [decide_eq_true ⟨h1, h2⟩]
      go_enter Try.func152, Try.ntmps152
      go_wp2_with fail
      go_ret
      exact ⟨rfl, rfl⟩
    · rw [decide_eq_false (fun h => h2 h.2)]
      go_enter Try.func152, Try.ntmps152
      go_wp2_with fail
      go_ret
      exact ⟨rfl, rfl⟩
  · rw [decide_eq_false (fun h => h1 h.1)]
    go_enter Try.func152, Try.ntmps152
    go_wp2_with fail
    go_ret
    exact ⟨rfl, rfl⟩
def InI (lo hi : Int) (xs : List Int) : Prop := ∀ x ∈ xs, lo ≤ x ∧ x ≤ hi
instance (lo hi : Int) (xs : List Int) : Decidable (InI lo hi xs) := by unfold InI; infer_instance
theorem InI_InN (n : Nat) (xs : List Int) : InI 0 ((n : Int) - 1) xs ↔ InN n xs := by
  unfold InI InN
  exact forall_congr' fun x => forall_congr' fun _ => by omega

set_option maxHeartbeats 1600000 in
theorem l1All_calls (xs : List Int) (lo hi : Int) (hl : xs.length < 1000000000) (v : Value) (w : World) (hv : Reads w v (ints xs)) :
    Calls Try.prog 97 #[v, .int .i64 lo, .int .i64 hi] w fun e w' => e = .returned (.bool (decide (InI lo hi xs))) ∧ w = w' := by
  obtain ⟨A, c, rfl, _, rd⟩ := hv
  rw [ints_length] at *
  have RD := Lib.hid rd
  clear rd
  go_enter Try.func97, Try.ntmps97
  go_wp2_with fail
  go_loop [11] (fun i => ∃ k : Nat, k ≤ xs.length ∧ i = .int .i64 k ∧ Hid (InI lo hi xs ↔ InI lo hi (xs.drop k))) (fun i => xs.length - (intOf i).toNat)
  case atStart => exact ⟨0, Nat.zero_le _, rfl, Iff.rfl⟩
  case round =>
    obtain ⟨k, hk, rfl, HI⟩ := hrel
    by_cases hlt : k < xs.length
    · obtain ⟨ad, rfl, ca⟩ := RD.out (by omega)
      have hx : xs[k]? = some xs[k] := List.getElem?_eq_getElem hlt
      have c1 := ca k _ (ints_get xs k hlt)
      have h0 : (0 : Int) ≤ k := by omega
      have h1 : (k : Int) < xs.length := by omega
      clear ca
      generalize xs[k] = x at *
      have CC := Lib.hid (l1In_calls x lo hi w)
      by_cases g1 : lo ≤ x ∧ x ≤ hi
      · have HE : Hid (InI lo hi xs ↔ InI lo hi (xs.drop (k + 1))) := all_step hx g1 HI.out
        rw [decide_eq_true g1] at CC
        clear hx g1 HI
        go_wp2_with fail
        refine CC.out.mono ?_
        rintro e w1 ⟨rfl, rfl⟩
        go_wp2_with fail
        exact ⟨⟨k + 1, by omega, by go_num, HE.out⟩, by simp [intOf]; omega⟩
      · have HE : Hid (decide (InI lo hi xs) = false) := decide_eq_false (all_not hx g1)
        rw [decide_eq_false g1] at CC
        clear hx g1 HI
        go_wp2_with fail
        refine CC.out.mono ?_
        rintro e w1 ⟨rfl, rfl⟩
        go_wp2_with fail
        go_ret
        exact ⟨by rw [HE.out]; rfl, rfl⟩
    · have h1 : (xs.length : Int) ≤ k := by omega
      have HE : Hid (decide (InI lo hi xs) = true) := decide_eq_true (all_end (by omega) HI.out)
      go_wp2_with fail
      go_ret
      exact ⟨by rw [HE.out]; rfl, rfl⟩

set_option maxHeartbeats 1600000 in
set_option maxRecDepth 100000 in
theorem brTable_calls (xss : List (List Int)) (hl : xss.length + total xss ≤ 1048576) (v : Value) (w : World) (hv : ReadsM w v xss) :
    Calls Try.prog 84 #[v] w fun e w' => e = .returned (.bool (decide (Tab xss))) ∧ w = w' := by
  obtain ⟨A, c, rfl, _, rd⟩ := hv.open
  have RD := Lib.hid rd
  have HT := Lib.hid hl
  have hnl : xss.length ≤ 1048576 := by omega
  clear rd hv hl
  have C1 := Lib.hid (l1In_calls (xss.length : Int) 1 4 w)
  by_cases g1 : (1 : Int) ≤ xss.length ∧ (xss.length : Int) ≤ 4
  · rw [decide_eq_true g1] at C1
    have G1 := Lib.hid g1
    clear g1
    go_enter Try.func84, Try.ntmps84
    go_wp2_with fail
    refine C1.out.mono ?_
    rintro e w1 ⟨rfl, rfl⟩
    go_wp2_with fail
    go_loop [13] (fun i => ∃ k : Nat, k ≤ xss.length ∧ i = .int .i64 k ∧ Hid ((∀ xs ∈ xss, RowN xss.length xs) ↔ ∀ xs ∈ xss.drop k, RowN xss.length xs)) (fun i => xss.length - (intOf i).toNat)
    case atStart => exact ⟨0, Nat.zero_le _, rfl, Iff.rfl⟩
    case round =>
      obtain ⟨k, hk, rfl, HI⟩ := hrel
      by_cases hlt : k < xss.length
      · obtain ⟨xs, hx⟩ : ∃ xs, xss[k]? = some xs := ⟨_, List.getElem?_eq_getElem hlt⟩
        obtain ⟨ad, B, d, rfl, c1, rd⟩ := RD.out k xs hx
        have h0 : (0 : Int) ≤ k := by omega
        have h1 : (k : Int) < xss.length := by omega
        have hxl : xs.length < 1000000000 := by
          have h1 := total_take xss k xs hx
          have h2 : total xss = total (xss.take (k + 1)) + total (xss.drop (k + 1)) := by unfold total; rw [← List.sum_append, ← List.map_append, List.take_append_drop]
          have := HT.out
          omega
        have CC := Lib.hid (l1All_calls xs 0 ((xss.length : Int) - 1) hxl (.slice B xs.length d) w rd)
        by_cases e1 : xs.length = xss.length
        · have t1 : ((xs.length : Int) != (xss.length : Int)) = false := by rw [e1]; simp
          by_cases e2 : InN xss.length xs
          · have HE : Hid ((∀ xs ∈ xss, RowN xss.length xs) ↔ ∀ xs ∈ xss.drop (k + 1), RowN xss.length xs) := all_step hx ⟨e1, e2⟩ HI.out
            rw [decide_eq_true ((InI_InN _ _).2 e2)] at CC
            clear hx rd e1 e2 HI
            go_wp2_with fail
            refine CC.out.mono ?_
            rintro e w1 ⟨rfl, rfl⟩
            go_wp2_with fail
            exact ⟨⟨k + 1, by omega, by go_num, HE.out⟩, by simp [intOf]; omega⟩
          · have HE : Hid (decide (Tab xss) = false) := decide_eq_false (fun h => e2 (h.2 xs (List.mem_of_getElem? hx)).2)
            rw [decide_eq_false (fun h => e2 ((InI_InN _ _).1 h))] at CC
            clear hx rd e1 e2 HI
            go_wp2_with fail
            refine CC.out.mono ?_
            rintro e w1 ⟨rfl, rfl⟩
            go_wp2_with fail
            go_ret
            exact ⟨by rw [HE.out]; rfl, rfl⟩
        · have t1 : ((xs.length : Int) != (xss.length : Int)) = true := by rw [bne_iff_ne]; omega
          have HE : Hid (decide (Tab xss) = false) := decide_eq_false (fun h => e1 (h.2 xs (List.mem_of_getElem? hx)).1)
          clear hx rd e1 HI
          go_wp2_with fail
          go_ret
          exact ⟨by rw [HE.out]; rfl, rfl⟩
      · have h1 : (xss.length : Int) ≤ k := by omega
        have AL := Lib.hid (all_end (by omega) HI.out)
        have HE : Hid (decide (Tab xss) = true) := decide_eq_true ⟨⟨by have := G1.out; omega, by have := G1.out; omega⟩, AL.out⟩
        go_wp2_with fail
        go_ret
        exact ⟨by rw [HE.out]; rfl, rfl⟩
  · rw [decide_eq_false g1] at C1
    have HE : Hid (decide (Tab xss) = false) := decide_eq_false (fun h => g1 (by have := h.1; omega))
    clear g1
    go_enter Try.func84, Try.ntmps84
    go_wp2_with fail
    refine C1.out.mono ?_
    rintro e w1 ⟨rfl, rfl⟩
    go_wp2_with fail
    go_ret
    exact ⟨by rw [HE.out]; rfl, rfl⟩
end Go.Proofs.Ytpmmajfdcicjiaa.N
