import Derived.Test.YtpmmajfdcicjiaaG1RFnRotationsMade
import Derived.Test.YtpmmajfdcicjiaaG2RFnRotationsMade
import Derived.Test.YtpmmajfdcicjiaaProg
import Derived.Test.YtpmmajfdcicjiaaG10RFnRotationsMade
import Derived.Deep.LoopGhost
import Derived.Deep.QuietTactic
import Derived.BigQuiet
/- Is it a table: the program and the reference. -/
namespace Go.Proofs.Ytpmmajfdcicjiaa.N
open Go.RowKit
set_option linter.unusedVariables false
set_option linter.unusedSimpArgs false

def InN (n : Nat) (xs : List Int) : Prop := ∀ x ∈ xs, 0 ≤ x ∧ x < (n : Int)
instance (n : Nat) (xs : List Int) : Decidable (InN n xs) := by unfold InN; infer_instance
def RowN (n : Nat) (xs : List Int) : Prop := xs.length = n ∧ InN n xs
instance (n : Nat) (xs : List Int) : Decidable (RowN n xs) := by unfold RowN; infer_instance
def Tab (xss : List (List Int)) : Prop := (1 ≤ xss.length ∧ xss.length ≤ 4) ∧ ∀ xs ∈ xss, RowN xss.length xs
instance (xss : List (List Int)) : Decidable (Tab xss) := by unfold Tab; infer_instance
theorem all_step {α : Type} {p : α → Prop} {l : List α} {k : Nat} {x : α} (hk : l[k]? = some x) (hx : p x) (h : (∀ y ∈ l, p y) ↔ ∀ y ∈ l.drop k, p y) : (∀ y ∈ l, p y) ↔ ∀ y ∈ l.drop (k + 1), p y := by
  obtain ⟨h1, h2⟩ := List.getElem?_eq_some_iff.1 hk
  rw [h, List.drop_eq_getElem_cons h1, h2]
  simp [hx]
theorem all_not {α : Type} {p : α → Prop} {l : List α} {k : Nat} {x : α} (hk : l[k]? = some x) (hx : ¬ p x) : ¬ ∀ y ∈ l, p y := fun h => hx (h x (List.mem_of_getElem? hk))
theorem all_end {α : Type} {p : α → Prop} {l : List α} {k : Nat} (hk : l.length ≤ k) (h : (∀ y ∈ l, p y) ↔ ∀ y ∈ l.drop k, p y) : ∀ y ∈ l, p y := by
  rw [h, List.drop_eq_nil_of_le hk]; simp

set_option maxHeartbeats 1600000 in
theorem areThings_calls (xs : List Int) (n : Nat) (hn : n < 1000000000) (hl : xs.length < 1000000000) (v : Value) (w : World) (hv : Reads w v (ints xs)) :
    Calls Try.prog 91 #[v, .int .i64 n] w fun e w' => e = .returned (.bool (decide (InN n xs))) ∧ w = w' := by
  obtain ⟨A, c, rfl, _, rd⟩ := hv
  rw [ints_length] at *
  have RD := Lib.hid rd
  clear rd
  go_enter Try.func91, Try.ntmps91
  go_wp2_with fail
  go_loop [9] (fun i => ∃ k : Nat, k ≤ xs.length ∧ i = .int .i64 k ∧ Hid (InN n xs ↔ InN n (xs.drop k))) (fun i => xs.length - (intOf i).toNat)
  case atStart => exact ⟨0, Nat.zero_le _, rfl, Iff.rfl⟩
  case round =>
    obtain ⟨k, hk, rfl, HI⟩ := hrel
    by_cases hlt : k < xs.length
    · obtain ⟨ad, rfl, ca⟩ := RD.out (by omega)
      have hx : xs[k]? = some xs[k] := List.getElem?_eq_getElem hlt
      have c1 := ca k _ (ints_get xs k hlt)
      have h0 : (0 : Int) ≤ k := by omega
      have h1 : (k : Int) < xs.length := by omega
      clear ca
      generalize xs[k] = x at *
      by_cases g1 : x < 0
      · have HE : Hid (decide (InN n xs) = false) := decide_eq_false (all_not hx (by omega))
        go_wp2_with fail
        go_ret
        exact ⟨by rw [HE.out]; rfl, rfl⟩
      · by_cases g2 : (n : Int) ≤ x
        · have HE : Hid (decide (InN n xs) = false) := decide_eq_false (all_not hx (by omega))
          go_wp2_with fail
          go_ret
          exact ⟨by rw [HE.out]; rfl, rfl⟩
        · have HE : Hid (InN n xs ↔ InN n (xs.drop (k + 1))) := all_step hx (by omega) HI.out
          go_wp2_with fail
          exact ⟨⟨k + 1, by omega, by go_num, HE.out⟩, by simp [intOf]; omega⟩
    · have h1 : (xs.length : Int) ≤ k := by omega
      have HE : Hid (decide (InN n xs) = true) := decide_eq_true (all_end (by omega) HI.out)
      go_wp2_with fail
      go_ret
      exact ⟨by rw [HE.out]; rfl, rfl⟩

set_option maxHeartbeats 1600000 in
set_option maxRecDepth 100000 in
theorem isTable_calls (xss : List (List Int)) (hl : xss.length + total xss ≤ 1048576) (v : Value) (w : World) (hv : ReadsM w v xss) :
    Calls Try.prog 78 #[v] w fun e w' => e = .returned (.bool (decide (Tab xss))) ∧ w = w' := by
  obtain ⟨A, c, rfl, _, rd⟩ := hv.open
  have RD := Lib.hid rd
  have HT := Lib.hid hl
  have hnl : xss.length ≤ 1048576 := by omega
  clear rd hv hl
  go_enter Try.func78, Try.ntmps78
  go_wp2_with fail
  go_loop [10] (fun i => ∃ k : Nat, k ≤ xss.length ∧ i = .int .i64 k ∧ Hid ((∀ xs ∈ xss, RowN xss.length xs) ↔ ∀ xs ∈ xss.drop k, RowN xss.length xs)) (fun i => xss.length - (intOf i).toNat)
  case atStart => exact ⟨0, Nat.zero_le _, rfl, Iff.rfl⟩
  case round =>
    obtain ⟨k, hk, rfl, HI⟩ := hrel
    by_cases hlt : k < xss.length
    · obtain ⟨xs, hx⟩ : ∃ xs, xss[k]? = some xs := ⟨_, List.getElem?_eq_getElem hlt⟩
      obtain ⟨ad, B, d, rfl, c1, rd⟩ := RD.out k xs hx
      have h0 : (0 : Int) ≤ k := by omega
      have h1 : (k : Int) < xss.length := by omega
      have hxl : xs.length < 1000000000 := by
        have h1 := total_take xss k xs hx
        have h2 : total xss = total (xss.take (k + 1)) + total (xss.drop (k + 1)) := by unfold total; rw [← List.sum_append, ← List.map_append, List.take_append_drop]
        have := HT.out
        omega
      have CC := Lib.hid (areThings_calls xs xss.length (by omega) hxl (.slice B xs.length d) w rd)
      by_cases e1 : xs.length = xss.length
      · have t1 : ((xs.length : Int) != (xss.length : Int)) = false := by rw [e1]; simp
        by_cases e2 : InN xss.length xs
        · have HE : Hid ((∀ xs ∈ xss, RowN xss.length xs) ↔ ∀ xs ∈ xss.drop (k + 1), RowN xss.length xs) := all_step hx ⟨e1, e2⟩ HI.out
          rw [decide_eq_true e2] at CC
          clear hx rd e1 e2 HI
          go_wp2_with fail
          refine CC.out.mono ?_
          rintro e w1 ⟨rfl, rfl⟩
          go_wp2_with fail
          exact ⟨⟨k + 1, by omega, by go_num, HE.out⟩, by simp [intOf]; omega⟩
        · have HE : Hid (decide (Tab xss) = false) := decide_eq_false (fun h => e2 (h.2 xs (List.mem_of_getElem? hx)).2)
          rw [decide_eq_false e2] at CC
          clear hx rd e1 e2 HI
          go_wp2_with fail
          refine CC.out.mono ?_
          rintro e w1 ⟨rfl, rfl⟩
          go_wp2_with fail
          go_ret
          exact ⟨by rw [HE.out]; rfl, rfl⟩
      · have t1 : ((xs.length : Int) != (xss.length : Int)) = true := by rw [bne_iff_ne]; omega
        have HE : Hid (decide (Tab xss) = false) := decide_eq_false (fun h => e1 (h.2 xs (List.mem_of_getElem? hx)).1)
        clear hx rd e1 HI
        go_wp2_with fail
        go_ret
        exact ⟨by rw [HE.out]; rfl, rfl⟩
    · have h1 : (xss.length : Int) ≤ k := by omega
      have AL := Lib.hid (all_end (by omega) HI.out)
      by_cases g1 : (1 : Int) ≤ xss.length
      · by_cases g2 : (xss.length : Int) ≤ 4
        · have HE : Hid (decide (Tab xss) = true) := decide_eq_true ⟨⟨by omega, by omega⟩, AL.out⟩
          go_wp2_with fail
          go_ret
          exact ⟨by rw [HE.out]; rfl, rfl⟩
        · have HE : Hid (decide (Tab xss) = false) := decide_eq_false (fun h => by have := h.1; omega)
          go_wp2_with fail
          go_ret
          exact ⟨by rw [HE.out]; rfl, rfl⟩
      · have HE : Hid (decide (Tab xss) = false) := decide_eq_false (fun h => by have := h.1; omega)
        go_wp2_with fail
        go_ret
        exact ⟨by rw [HE.out]; rfl, rfl⟩

theorem l1In_calls (x lo hi : Int) (w : World) :
    Calls Try.prog 152 #[.int .i64 x, .int .i64 lo, .int .i64 hi] w fun e w' => e = .returned (.bool (decide (lo ≤ x ∧ x ≤ hi))) ∧ w = w' := by
  by_cases h1 : lo ≤ x
  · by_cases h2 : x ≤ hi
    · rw [decide_eq_true ⟨h1, h2⟩]
      go_enter Try.func152, Try.ntmps152
      go_wp2_with fail
      go_ret
      exact ⟨rfl, rfl⟩
    · rw [decide_eq_false (fun h => h2 h.2)]
      go_enter Try.func152, Try.ntmps152
      go_wp2_with fail
      go_ret
      exact ⟨rfl, rfl⟩
  · rw [decide_eq_false (fun h => h1 h.1)]
    go_enter Try.func152, Try.ntmps152
    go_wp2_with fail
    go_ret
    exact ⟨rfl, rfl⟩
def InI (lo hi : Int) (xs : List Int) : Prop := ∀ x ∈ xs, lo ≤ x ∧ x ≤ hi
instance (lo hi : Int) (xs : List Int) : Decidable (InI lo hi xs) := by unfold InI; infer_instance
theorem InI_InN (n : Nat) (xs : List Int) : InI 0 ((n : Int) - 1) xs ↔ InN n xs := by
  unfold InI InN
  exact forall_congr' fun x => forall_congr' fun _ => by omega

set_option maxHeartbeats 1600000 in
theorem l1All_calls (xs : List Int) (lo hi : Int) (hl : xs.length < 1000000000) (v : Value) (w : World) (hv : Reads w v (ints xs)) :
    Calls Try.prog 97 #[v, .int .i64 lo, .int .i64 hi] w fun e w' => e = .returned (.bool (decide (InI lo hi xs))) ∧ w = w' := by
  obtain ⟨A, c, rfl, _, rd⟩ := hv
  rw [ints_length] at *
  have RD := Lib.hid rd
  clear rd
  go_enter Try.func97, Try.ntmps97
  go_wp2_with fail
  go_loop [11] (fun i => ∃ k : Nat, k ≤ xs.length ∧ i = .int .i64 k ∧ Hid (InI lo hi xs ↔ InI lo hi (xs.drop k))) (fun i => xs.length - (intOf i).toNat)
  case atStart => exact ⟨0, Nat.zero_le _, rfl, Iff.rfl⟩
  case round =>
    obtain ⟨k, hk, rfl, HI⟩ := hrel
    by_cases hlt : k < xs.length
    · obtain ⟨ad, rfl, ca⟩ := RD.out (by omega)
      have hx : xs[k]? = some xs[k] := List.getElem?_eq_getElem hlt
      have c1 := ca k _ (ints_get xs k hlt)
      have h0 : (0 : Int) ≤ k := by omega
      have h1 : (k : Int) < xs.length := by omega
      clear ca
      generalize xs[k] = x at *
      have CC := Lib.hid (l1In_calls x lo hi w)
      by_cases g1 : lo ≤ x ∧ x ≤ hi
      · have HE : Hid (InI lo hi xs ↔ InI lo hi (xs.drop (k + 1))) := all_step hx g1 HI.out
        rw [decide_eq_true g1] at CC
        clear hx g1 HI
        go_wp2_with fail
        refine CC.out.mono ?_
        rintro e w1 ⟨rfl, rfl⟩
        go_wp2_with fail
        exact ⟨⟨k + 1, by omega, by go_num, HE.out⟩, by simp [intOf]; omega⟩
      · have HE : Hid (decide (InI lo hi xs) = false) := decide_eq_false (all_not hx g1)
        rw [decide_eq_false g1] at CC
        clear hx g1 HI
        go_wp2_with fail
        refine CC.out.mono ?_
        rintro e w1 ⟨rfl, rfl⟩
        go_wp2_with fail
        go_ret
        exact ⟨by rw [HE.out]; rfl, rfl⟩
    · have h1 : (xs.length : Int) ≤ k := by omega
      have HE : Hid (decide (InI lo hi xs) = true) := decide_eq_true (all_end (by omega) HI.out)
      go_wp2_with fail
      go_ret
      exact ⟨by rw [HE.out]; rfl, rfl⟩

set_option maxHeartbeats 1600000 in
set_option maxRecDepth 100000 in
theorem brTable_calls (xss : List (List Int)) (hl : xss.length + total xss ≤ 1048576) (v : Value) (w : World) (hv : ReadsM w v xss) :
    Calls Try.prog 84 #[v] w fun e w' => e = .returned (.bool (decide (Tab xss))) ∧ w = w' := by
  obtain ⟨A, c, rfl, _, rd⟩ := hv.open
  have RD := Lib.hid rd
  have HT := Lib.hid hl
  have hnl : xss.length ≤ 1048576 := by omega
  clear rd hv hl
  have C1 := Lib.hid (l1In_calls (xss.length : Int) 1 4 w)
  by_cases g1 : (1 : Int) ≤ xss.length ∧ (xss.length : Int) ≤ 4
  · rw [decide_eq_true g1] at C1
    have G1 := Lib.hid g1
    clear g1
    go_enter Try.func84, Try.ntmps84
    go_wp2_with fail
    refine C1.out.mono ?_
    rintro e w1 ⟨rfl, rfl⟩
    go_wp2_with fail
    go_loop [13] (fun i => ∃ k : Nat, k ≤ xss.length ∧ i = .int .i64 k ∧ Hid ((∀ xs ∈ xss, RowN xss.length xs) ↔ ∀ xs ∈ xss.drop k, RowN xss.length xs)) (fun i => xss.length - (intOf i).toNat)
    case atStart => exact ⟨0, Nat.zero_le _, rfl, Iff.rfl⟩
    case round =>
      obtain ⟨k, hk, rfl, HI⟩ := hrel
      by_cases hlt : k < xss.length
      · obtain ⟨xs, hx⟩ : ∃ xs, xss[k]? = some xs := ⟨_, List.getElem?_eq_getElem hlt⟩
        obtain ⟨ad, B, d, rfl, c1, rd⟩ := RD.out k xs hx
        have h0 : (0 : Int) ≤ k := by omega
        have h1 : (k : Int) < xss.length := by omega
        have hxl : xs.length < 1000000000 := by
          have h1 := total_take xss k xs hx
          have h2 : total xss = total (xss.take (k + 1)) + total (xss.drop (k + 1)) := by unfold total; rw [← List.sum_append, ← List.map_append, List.take_append_drop]
          have := HT.out
          omega
        have CC := Lib.hid (l1All_calls xs 0 ((xss.length : Int) - 1) hxl (.slice B xs.length d) w rd)
        by_cases e1 : xs.length = xss.length
        · have t1 : ((xs.length : Int) != (xss.length : Int)) = false := by rw [e1]; simp
          by_cases e2 : InN xss.length xs
          · have HE : Hid ((∀ xs ∈ xss, RowN xss.length xs) ↔ ∀ xs ∈ xss.drop (k + 1), RowN xss.length xs) := all_step hx ⟨e1, e2⟩ HI.out
            rw [decide_eq_true ((InI_InN _ _).2 e2)] at CC
            clear hx rd e1 e2 HI
            go_wp2_with fail
            refine CC.out.mono ?_
            rintro e w1 ⟨rfl, rfl⟩
            go_wp2_with fail
            exact ⟨⟨k + 1, by omega, by go_num, HE.out⟩, by simp [intOf]; omega⟩
          · have HE : Hid (decide (Tab xss) = false) := decide_eq_false (fun h => e2 (h.2 xs (List.mem_of_getElem? hx)).2)
            rw [decide_eq_false (fun h => e2 ((InI_InN _ _).1 h))] at CC
            clear hx rd e1 e2 HI
            go_wp2_with fail
            refine CC.out.mono ?_
            rintro e w1 ⟨rfl, rfl⟩
            go_wp2_with fail
            go_ret
            exact ⟨by rw [HE.out]; rfl, rfl⟩
        · have t1 : ((xs.length : Int) != (xss.length : Int)) = true := by rw [bne_iff_ne]; omega
          have HE : Hid (decide (Tab xss) = false) := decide_eq_false (fun h => e1 (h.2 xs (List.mem_of_getElem? hx)).1)
          clear hx rd e1 HI
          go_wp2_with fail
          go_ret
          exact ⟨by rw [HE.out]; rfl, rfl⟩
      · have h1 : (xss.length : Int) ≤ k := by omega
        have AL := Lib.hid (all_end (by omega) HI.out)
        have HE : Hid (decide (Tab xss) = true) := decide_eq_true ⟨⟨by have := G1.out; omega, by have := G1.out; omega⟩, AL.out⟩
        go_wp2_with fail
        go_ret
        exact ⟨by rw [HE.out]; rfl, rfl⟩
  · rw [decide_eq_false g1] at C1
    have HE : Hid (decide (Tab xss) = false) := decide_eq_false (fun h => g1 (by have := h.1; omega))
    clear g1
    go_enter Try.func84, Try.ntmps84
    go_wp2_with fail
    refine C1.out.mono ?_
    rintro e w1 ⟨rfl, rfl⟩
    go_wp2_with fail
    go_ret
    exact ⟨by rw [HE.out]; rfl, rfl⟩
end Go.Proofs.Ytpmmajfdcicjiaa.N
/- The first three for which a table is not associative: the program and the reference. -/
namespace Go.Proofs.Ytpmmajfdcicjiaa.N
open Go.RowKit
set_option linter.unusedVariables false
set_option linter.unusedSimpArgs false

def okT (g : Nat → Nat → Nat) (i j k : Nat) : Prop := g i (g j k) = g (g i j) k
def IsBrk (n : Nat) (g : Nat → Nat → Nat) (l : List Int) : Prop :=
  (l = [] ∧ ∀ i j k, i < n → j < n → k < n → okT g i j k) ∨
  ∃ i j k, i < n ∧ j < n ∧ k < n ∧ l = [(i : Int), (j : Int), (k : Int)] ∧ ¬ okT g i j k ∧ (∀ i' j k, i' < i → j < n → k < n → okT g i' j k) ∧ (∀ j' k, j' < j → k < n → okT g i j' k) ∧ ∀ k', k' < k → okT g i j k'
theorem IsBrk.uniq {n : Nat} {g : Nat → Nat → Nat} {l l' : List Int} (h : IsBrk n g l) (h' : IsBrk n g l') : l = l' := by
  rcases h with ⟨rfl, h⟩ | ⟨i, j, k, hi, hj, hk, rfl, h1, h2, h3, h4⟩
  · rcases h' with ⟨rfl, h'⟩ | ⟨i, j, k, hi, hj, hk, rfl, h1, h2, h3, h4⟩
    · rfl
    · exact absurd (h i j k hi hj hk) h1
  · rcases h' with ⟨rfl, h'⟩ | ⟨i', j', k', hi', hj', hk', rfl, h1', h2', h3', h4'⟩
    · exact absurd (h' i j k hi hj hk) h1
    · have ei : i = i' := by
        rcases Nat.lt_trichotomy i i' with h | h | h
        · exact absurd (h2' i j k h hj hk) h1
        · exact h
        · exact absurd (h2 i' j' k' h hj' hk') h1'
      subst ei
      have ej : j = j' := by
        rcases Nat.lt_trichotomy j j' with h | h | h
        · exact absurd (h3' j k h hk) h1
        · exact h
        · exact absurd (h3 j' k' h hk') h1'
      subst ej
      have ek : k = k' := by
        rcases Nat.lt_trichotomy k k' with h | h | h
        · exact absurd (h4' k h) h1
        · exact h
        · exact absurd (h4 k' h) h1'
      rw [ek]
theorem least_of {p : Nat → Prop} (h : ∃ n, p n) : ∃ n, p n ∧ ∀ m, m < n → ¬ p m := by
  obtain ⟨n, hn⟩ := h
  induction n using Nat.strongRecOn with
  | _ n ih =>
    by_cases hl : ∃ m, m < n ∧ p m
    · obtain ⟨m, hm, pm⟩ := hl
      exact ih m hm pm
    · exact ⟨n, hn, fun m hm pm => hl ⟨m, hm, pm⟩⟩
theorem brk_exists (n : Nat) (g : Nat → Nat → Nat) : ∃ l, IsBrk n g l := by
  by_cases h : ∃ i, i < n ∧ ∃ j k, j < n ∧ k < n ∧ ¬ okT g i j k
  · obtain ⟨i, ⟨hi, h⟩, mi⟩ := least_of h
    obtain ⟨j, ⟨hj, h⟩, mj⟩ := least_of (p := fun j => j < n ∧ ∃ k, k < n ∧ ¬ okT g i j k) (let ⟨j, k, hj, hk, h⟩ := h; ⟨j, hj, k, hk, h⟩)
    obtain ⟨k, ⟨hk, h⟩, mk⟩ := least_of h
    refine ⟨_, .inr ⟨i, j, k, hi, hj, hk, rfl, h, fun i' j k h1 h2 h3 => ?_, fun j' k h1 h2 => ?_, fun k' h1 => ?_⟩⟩
    · exact Classical.byContradiction fun hc => mi i' h1 ⟨by omega, j, k, h2, h3, hc⟩
    · exact Classical.byContradiction fun hc => mj j' h1 ⟨by omega, k, h2, hc⟩
    · exact Classical.byContradiction fun hc => mk k' h1 ⟨by omega, hc⟩
  · exact ⟨[], .inl ⟨rfl, fun i j k hi hj hk => Classical.byContradiction fun hc => h ⟨i, hi, j, k, hj, hk, hc⟩⟩⟩
def TabR (w : World) (v : Value) (n : Nat) (g : Nat → Nat → Nat) : Prop :=
  ∃ (ad : Addr) (c : Nat) (bd : Nat → Addr) (cc : Nat → Nat), v = .slice (some ad) n c ∧ (∀ i, i < n → w.cell? (ad.add i) = some (.slice (some (bd i)) n (cc i))) ∧ ∀ i j, i < n → j < n → w.cell? ((bd i).add j) = some (.int .i64 (g i j))
theorem TabR.ext {w w' : World} {v : Value} {n : Nat} {g : Nat → Nat → Nat} (h : TabR w v n g) (hx : Ext w w') : TabR w' v n g := by
  obtain ⟨ad, c, bd, cc, e, h1, h2⟩ := h
  exact ⟨ad, c, bd, cc, e, fun i hi => hx.cell (h1 i hi), fun i j hi hj => hx.cell (h2 i j hi hj)⟩
def gOf (xss : List (List Int)) (i j : Nat) : Nat := ((xss.getD i []).getD j 0).toNat
theorem gOf_at {xss : List (List Int)} (h : Tab xss) {i j : Nat} {xs : List Int} (hi : xss[i]? = some xs) (hj : j < xss.length) : xs[j]? = some (gOf xss i j : Int) ∧ gOf xss i j < xss.length := by
  have hr := h.2 xs (List.mem_of_getElem? hi)
  have hl : j < xs.length := by rw [hr.1]; exact hj
  have e : xs[j]? = some xs[j] := List.getElem?_eq_getElem hl
  have hb := hr.2 _ (List.mem_of_getElem? e)
  have eg : gOf xss i j = xs[j].toNat := by
    unfold gOf
    rw [show xss.getD i [] = xs from by rw [List.getD_eq_getElem?_getD, hi]; rfl, List.getD_eq_getElem?_getD, e]
    rfl
  rw [eg, e]
  refine ⟨?_, by omega⟩
  congr 1
  omega
theorem gOf_lt {xss : List (List Int)} (h : Tab xss) {i j : Nat} (hi : i < xss.length) (hj : j < xss.length) : gOf xss i j < xss.length := (gOf_at h (List.getElem?_eq_getElem hi) hj).2
theorem ReadsM.tab {w : World} {v : Value} {xss : List (List Int)} (h : ReadsM w v xss) (hT : Tab xss) : TabR w v xss.length (gOf xss) := by
  obtain ⟨A, c, rfl, _, rows⟩ := h.open
  have hn : 0 < xss.length := hT.1.1
  obtain ⟨ad, rfl⟩ : ∃ ad, A = some ad := by obtain ⟨ad, _, _, e, _⟩ := rows 0 _ (List.getElem?_eq_getElem hn); exact ⟨ad, e⟩
  have pick : ∀ i, ∃ p : Addr × Nat, i < xss.length → w.cell? (ad.add i) = some (.slice (some p.1) xss.length p.2) ∧ ∀ j, j < xss.length → w.cell? (p.1.add j) = some (.int .i64 (gOf xss i j)) := by
    intro i
    by_cases hi : i < xss.length
    · have hx := List.getElem?_eq_getElem hi
      obtain ⟨ad', B, d, ea, hc, hr⟩ := rows i _ hx
      cases ea
      have hl := (hT.2 _ (List.mem_of_getElem? hx)).1
      obtain ⟨B', d', eb, _, hb⟩ := hr
      rw [ints_length] at hb
      injection eb with e1 _ e2
      subst e1
      obtain ⟨bd, rfl, hcc⟩ := hb (by omega)
      rw [hl] at hc
      refine ⟨(bd, d), fun _ => ⟨hc, fun j hj => hcc j _ ?_⟩⟩
      have := (gOf_at hT hx hj).1
      simp only [ints, List.getElem?_map, this, Option.map_some]
    · exact ⟨(ad, 0), fun h => absurd h hi⟩
  exact ⟨ad, c, fun i => (Classical.choose (pick i)).1, fun i => (Classical.choose (pick i)).2, rfl, fun i hi => (Classical.choose_spec (pick i) hi).1, fun i j hi hj => (Classical.choose_spec (pick i) hi).2 j hj⟩

set_option maxHeartbeats 6400000 in
set_option maxRecDepth 100000 in
theorem broken_calls (n : Nat) (g : Nat → Nat → Nat) (hg : ∀ i j, i < n → j < n → g i j < n) (hn : n ≤ 4) (l : List Int) (hl : IsBrk n g l) (v : Value) (w : World) (hv : TabR w v n g) :
    Calls Try.prog 86 #[v] w fun e w' => ∃ u, e = .returned (u) ∧ Own w' w.heap.size 3 u (ints l) ∧ Ext w w' := by
  obtain ⟨ad, c, bd, cc, rfl, hrow, hcell⟩ := hv
  have HL := Lib.hid hl
  have HG := Lib.hid hg
  have HRow := Lib.hid hrow
  have HCell := Lib.hid hcell
  have hn' : (n : Int) ≤ 4 := by omega
  clear hl hg hrow hcell
  go_enter Try.func86, Try.ntmps86
  go_wp2_with fail
  go_loopw [8] (fun iv wr => ∃ i : Nat, i ≤ n ∧ iv = .int .i64 i ∧ Hid (∀ i' j k, i' < i → j < n → k < n → okT g i' j k) ∧ Hid (Ext w wr)) (fun iv _ => n - (intOf iv).toNat)
  case atStart => exact ⟨0, Nat.zero_le _, rfl, (fun i' j k h => absurd h (Nat.not_lt_zero _)), Ext.refl _⟩
  case round =>
    obtain ⟨i, hi, rfl, HI, HX⟩ := hrel
    by_cases hlt : i < n
    · have i0 : (0 : Int) ≤ i := by omega
      have i1 : (i : Int) < n := by omega
      go_wp2_with fail
      go_loopw [13] (fun jv wr => ∃ j : Nat, j ≤ n ∧ jv = .int .i64 j ∧ Hid (∀ j' k, j' < j → k < n → okT g i j' k) ∧ Hid (Ext w wr)) (fun jv _ => n - (intOf jv).toNat)
      case atStart => exact ⟨0, Nat.zero_le _, rfl, (fun j' k h => absurd h (Nat.not_lt_zero _)), HX.out⟩
      case round =>
        obtain ⟨j, hj, rfl, HJ, HX⟩ := hrel
        by_cases hlt2 : j < n
        · have j0 : (0 : Int) ≤ j := by omega
          have j1 : (j : Int) < n := by omega
          go_wp2_with fail
          go_loopw [18] (fun kv wr => ∃ k : Nat, k ≤ n ∧ kv = .int .i64 k ∧ Hid (∀ k', k' < k → okT g i j k') ∧ Hid (Ext w wr)) (fun kv _ => n - (intOf kv).toNat)
          case atStart => exact ⟨0, Nat.zero_le _, rfl, (fun k' h => absurd h (Nat.not_lt_zero _)), HX.out⟩
          case round =>
            obtain ⟨k, hk, rfl, HK, HX⟩ := hrel
            by_cases hlt3 : k < n
            · have k0 : (0 : Int) ≤ k := by omega
              have k1 : (k : Int) < n := by omega
              have a1 := HG.out j k hlt2 hlt3
              have a2 := HG.out i j hlt hlt2
              have c1 := HX.out.cell (HRow.out i hlt)
              have c2 := HX.out.cell (HRow.out j hlt2)
              have c3 := HX.out.cell (HCell.out j k hlt2 hlt3)
              have c4 := HX.out.cell (HCell.out i (g j k) hlt a1)
              have c5 := HX.out.cell (HCell.out i j hlt hlt2)
              have c6 := HX.out.cell (HRow.out (g i j) a2)
              have c7 := HX.out.cell (HCell.out (g i j) k a2 hlt3)
              have OK : Hid (okT g i j k ↔ g i (g j k) = g (g i j) k) := Iff.rfl
              generalize g i (g j k) = x at *
              generalize g (g i j) k = y at *
              generalize g i j = p at *
              generalize g j k = q at *
              have p0 : (0 : Int) ≤ p ∧ (p : Int) < n := by omega
              have q0 : (0 : Int) ≤ q ∧ (q : Int) < n := by omega
              by_cases hxy : x = y
              · have t1 : ((x : Int) != (y : Int)) = false := by rw [hxy]; simp
                have HK2 : Hid (∀ k', k' < k + 1 → okT g i j k') := by
                  intro k' h
                  rcases Nat.lt_or_eq_of_le (Nat.lt_succ_iff.1 h) with h | h
                  · exact HK.out k' h
                  · rw [h]; exact OK.out.2 hxy
                clear hxy
                go_wp2_with fail
                go_quiet (fail)
                go_wp2_with fail
                exact ⟨⟨k + 1, by omega, by go_num, HK2.out, HX.out.drewN nq⟩, by simp [intOf]; omega⟩
              · have t1 : ((x : Int) != (y : Int)) = true := by rw [bne_iff_ne]; omega
                have EL : Hid (l = [(i : Int), (j : Int), (k : Int)]) := HL.out.uniq (.inr ⟨i, j, k, hlt, hlt2, hlt3, rfl, fun h => hxy (OK.out.1 h), HI.out, HJ.out, HK.out⟩)
                have OF := Lib.hid (fun q => Own.lit (wr.drewN q) w.heap.size 3 #[.int .i64 i, .int .i64 j, .int .i64 k] (HX.out.drewN q).heap (by show 3 ≤ maxLen; decide))
                clear hxy
                go_wp2_with fail
                go_quiet (fail)
                go_wp2_with fail
                go_ret
                exact ⟨_, rfl, by rw [EL.out]; exact OF.out nq, (HX.out.drewN nq).alloc _⟩
            · have k1 : (n : Int) ≤ k := by omega
              have HJ2 : Hid (∀ j' k, j' < j + 1 → k < n → okT g i j' k) := by
                intro j' k' h hk'
                rcases Nat.lt_or_eq_of_le (Nat.lt_succ_iff.1 h) with h | h
                · exact HJ.out j' k' h hk'
                · rw [h]; exact HK.out k' (by omega)
              go_wp2_with fail
              exact ⟨⟨j + 1, by omega, by go_num, HJ2.out, HX.out⟩, by simp [intOf]; omega⟩
        · have j1 : (n : Int) ≤ j := by omega
          have HI2 : Hid (∀ i' j k, i' < i + 1 → j < n → k < n → okT g i' j k) := by
            intro i' j' k' h hj' hk'
            rcases Nat.lt_or_eq_of_le (Nat.lt_succ_iff.1 h) with h | h
            · exact HI.out i' j' k' h hj' hk'
            · rw [h]; exact HJ.out j' k' (by omega) hk'
          go_wp2_with fail
          exact ⟨⟨i + 1, by omega, by go_num, HI2.out, HX.out⟩, by simp [intOf]; omega⟩
    · have i1 : (n : Int) ≤ i := by omega
      have EL : Hid (l = []) := HL.out.uniq (.inl ⟨rfl, fun i' j k h1 h2 h3 => HI.out i' j k (by omega) h2 h3⟩)
      go_wp2_with fail
      go_ret
      exact ⟨_, rfl, by rw [EL.out]; exact Own.nil _ _ _, HX.out⟩

set_option maxHeartbeats 6400000 in
set_option maxRecDepth 100000 in
theorem brBroken_calls (n : Nat) (g : Nat → Nat → Nat) (hg : ∀ i j, i < n → j < n → g i j < n) (hn : n ≤ 4) (l : List Int) (hl : IsBrk n g l) (v : Value) (w : World) (hv : TabR w v n g) :
    Calls Try.prog 87 #[v] w fun e w' => ∃ u, e = .returned (.tuple #[u, .bool (decide (0 < l.length))]) ∧ Own w' w.heap.size 3 u (ints l) ∧ Ext w w' := by
  obtain ⟨ad, c, bd, cc, rfl, hrow, hcell⟩ := hv
  have HL := Lib.hid hl
  have HG := Lib.hid hg
  have HRow := Lib.hid hrow
  have HCell := Lib.hid hcell
  have hn' : (n : Int) ≤ 4 := by omega
  clear hl hg hrow hcell
  go_enter Try.func87, Try.ntmps87
  go_wp2_with fail
  go_loopw [9] (fun iv wr => ∃ i : Nat, i ≤ n ∧ iv = .int .i64 i ∧ Hid (∀ i' j k, i' < i → j < n → k < n → okT g i' j k) ∧ Hid (Ext w wr)) (fun iv _ => n - (intOf iv).toNat)
  case atStart => exact ⟨0, Nat.zero_le _, rfl, (fun i' j k h => absurd h (Nat.not_lt_zero _)), Ext.refl _⟩
  case round =>
    obtain ⟨i, hi, rfl, HI, HX⟩ := hrel
    by_cases hlt : i < n
    · have i0 : (0 : Int) ≤ i := by omega
      have i1 : (i : Int) < n := by omega
      go_wp2_with fail
      go_loopw [14] (fun jv wr => ∃ j : Nat, j ≤ n ∧ jv = .int .i64 j ∧ Hid (∀ j' k, j' < j → k < n → okT g i j' k) ∧ Hid (Ext w wr)) (fun jv _ => n - (intOf jv).toNat)
      case atStart => exact ⟨0, Nat.zero_le _, rfl, (fun j' k h => absurd h (Nat.not_lt_zero _)), HX.out⟩
      case round =>
        obtain ⟨j, hj, rfl, HJ, HX⟩ := hrel
        by_cases hlt2 : j < n
        · have j0 : (0 : Int) ≤ j := by omega
          have j1 : (j : Int) < n := by omega
          go_wp2_with fail
          go_loopw [19] (fun kv wr => ∃ k : Nat, k ≤ n ∧ kv = .int .i64 k ∧ Hid (∀ k', k' < k → okT g i j k') ∧ Hid (Ext w wr)) (fun kv _ => n - (intOf kv).toNat)
          case atStart => exact ⟨0, Nat.zero_le _, rfl, (fun k' h => absurd h (Nat.not_lt_zero _)), HX.out⟩
          case round =>
            obtain ⟨k, hk, rfl, HK, HX⟩ := hrel
            by_cases hlt3 : k < n
            · have k0 : (0 : Int) ≤ k := by omega
              have k1 : (k : Int) < n := by omega
              have a1 := HG.out j k hlt2 hlt3
              have a2 := HG.out i j hlt hlt2
              have c1 := HX.out.cell (HRow.out i hlt)
              have c2 := HX.out.cell (HRow.out j hlt2)
              have c3 := HX.out.cell (HCell.out j k hlt2 hlt3)
              have c4 := HX.out.cell (HCell.out i (g j k) hlt a1)
              have c5 := HX.out.cell (HCell.out i j hlt hlt2)
              have c6 := HX.out.cell (HRow.out (g i j) a2)
              have c7 := HX.out.cell (HCell.out (g i j) k a2 hlt3)
              have OK : Hid (okT g i j k ↔ g i (g j k) = g (g i j) k) := Iff.rfl
              generalize g i (g j k) = x at *
              generalize g (g i j) k = y at *
              generalize g i j = p at *
              generalize g j k = q at *
              have p0 : (0 : Int) ≤ p ∧ (p : Int) < n := by omega
              have q0 : (0 : Int) ≤ q ∧ (q : Int) < n := by omega
              by_cases hxy : x = y
              · have t1 : ((x : Int) != (y : Int)) = false := by rw [hxy]; simp
                have HK2 : Hid (∀ k', k' < k + 1 → okT g i j k') := by
                  intro k' h
                  rcases Nat.lt_or_eq_of_le (Nat.lt_succ_iff.1 h) with h | h
                  · exact HK.out k' h
                  · rw [h]; exact OK.out.2 hxy
                clear hxy
                go_wp2_with fail
                go_quiet (fail)
                go_wp2_with fail
                exact ⟨⟨k + 1, by omega, by go_num, HK2.out, HX.out.drewN nq⟩, by simp [intOf]; omega⟩
              · have t1 : ((x : Int) != (y : Int)) = true := by rw [bne_iff_ne]; omega
                have EL : Hid (l = [(i : Int), (j : Int), (k : Int)]) := HL.out.uniq (.inr ⟨i, j, k, hlt, hlt2, hlt3, rfl, fun h => hxy (OK.out.1 h), HI.out, HJ.out, HK.out⟩)
                have OF := Lib.hid (fun q => Own.lit (wr.drewN q) w.heap.size 3 #[.int .i64 i, .int .i64 j, .int .i64 k] (HX.out.drewN q).heap (by show 3 ≤ maxLen; decide))
                clear hxy
                go_wp2_with fail
                go_quiet (fail)
                go_wp2_with fail
                go_ret2
                exact ⟨_, by rw [EL.out]; rfl, by rw [EL.out]; exact OF.out nq, (HX.out.drewN nq).alloc _⟩
            · have k1 : (n : Int) ≤ k := by omega
              have HJ2 : Hid (∀ j' k, j' < j + 1 → k < n → okT g i j' k) := by
                intro j' k' h hk'
                rcases Nat.lt_or_eq_of_le (Nat.lt_succ_iff.1 h) with h | h
                · exact HJ.out j' k' h hk'
                · rw [h]; exact HK.out k' (by omega)
              go_wp2_with fail
              exact ⟨⟨j + 1, by omega, by go_num, HJ2.out, HX.out⟩, by simp [intOf]; omega⟩
        · have j1 : (n : Int) ≤ j := by omega
          have HI2 : Hid (∀ i' j k, i' < i + 1 → j < n → k < n → okT g i' j k) := by
            intro i' j' k' h hj' hk'
            rcases Nat.lt_or_eq_of_le (Nat.lt_succ_iff.1 h) with h | h
            · exact HI.out i' j' k' h hj' hk'
            · rw [h]; exact HJ.out j' k' (by omega) hk'
          go_wp2_with fail
          exact ⟨⟨i + 1, by omega, by go_num, HI2.out, HX.out⟩, by simp [intOf]; omega⟩
    · have i1 : (n : Int) ≤ i := by omega
      have EL : Hid (l = []) := HL.out.uniq (.inl ⟨rfl, fun i' j k h1 h2 h3 => HI.out i' j k (by omega) h2 h3⟩)
      go_wp2_with fail
      go_ret2
      exact ⟨_, by rw [EL.out]; rfl, by rw [EL.out]; exact Own.nil _ _ _, HX.out⟩
end Go.Proofs.Ytpmmajfdcicjiaa.N
