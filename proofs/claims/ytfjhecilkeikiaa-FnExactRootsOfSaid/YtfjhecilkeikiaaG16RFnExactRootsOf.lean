import Derived.Test.YtfjhecilkeikiaaG1RFnExactRootsOf
import Derived.Test.YtfjhecilkeikiaaG8RFnExactRootsOf
import Derived.Test.YtfjhecilkeikiaaG2RFnExactRootsOf
import Derived.Test.YtfjhecilkeikiaaG14RFnExactRootsOf
import Derived.Test.YtfjhecilkeikiaaProg
import Derived.Test.YtfjhecilkeikiaaG7RFnExactRootsOf
import Derived.Deep.LoopGhost
import Derived.Deep.QuietTactic
import Derived.BigQuiet
import Derived.Deep.OwnRows
import Derived.KernelRfl
/- All trees with so many carets, in order of texts: plain Lean. -/
namespace Go.Proofs.Ytfjhecilkeikiaa.N
set_option linter.unusedVariables false
set_option linter.unusedSimpArgs false

/-- Inserting by texts, and sorting trees by it. -/
def insT (x : Tr) : List Tr → List Tr
  | [] => [x]
  | y :: l => if blt (tx y) (tx x) then y :: insT x l else x :: y :: l
def srtT (l : List Tr) : List Tr := l.foldl (fun acc x => insT x acc) []
theorem insT_tx (x : Tr) : ∀ l, (insT x l).map tx = ins (tx x) (l.map tx)
  | [] => rfl
  | y :: l => by simp only [insT, ins, List.map_cons]; split <;> simp [insT_tx x l]
theorem insT_perm (x : Tr) : ∀ l, (insT x l).Perm (x :: l)
  | [] => List.Perm.refl _
  | y :: l => by
    simp only [insT]
    split
    · exact (List.Perm.cons y (insT_perm x l)).trans (List.Perm.swap x y l)
    · exact List.Perm.refl _
theorem foldl_insT_tx : ∀ (l acc : List Tr), (l.foldl (fun acc x => insT x acc) acc).map tx = (l.map tx).foldl (fun acc x => ins x acc) (acc.map tx)
  | [], acc => rfl
  | x :: l, acc => by simp only [List.foldl_cons, List.map_cons]; rw [foldl_insT_tx l, insT_tx]
theorem srtT_tx (l : List Tr) : (srtT l).map tx = srt (l.map tx) := foldl_insT_tx l []
theorem foldl_insT_perm : ∀ (l acc : List Tr), (l.foldl (fun acc x => insT x acc) acc).Perm (acc ++ l)
  | [], acc => by simp
  | x :: l, acc => by
    refine (foldl_insT_perm l (insT x acc)).trans ?_
    refine ((insT_perm x acc).append_right l).trans ?_
    exact (List.perm_middle (a := x) (l₁ := acc) (l₂ := l)).symm
theorem srtT_perm (l : List Tr) : (srtT l).Perm l := foldl_insT_perm l []

def rawJ (A : List Tr) (B : List Tr) : List Tr := A.flatMap fun a => B.map fun b => .node a b
def raw (f : Nat → List Tr) (n k : Nat) : List Tr := (List.range k).flatMap fun i => rawJ (f i) (f (n - 1 - i))
theorem raw_succ (f : Nat → List Tr) (n k : Nat) : raw f n (k + 1) = raw f n k ++ rawJ (f k) (f (n - 1 - k)) := by simp [raw, List.range_succ, List.flatMap_append]
theorem raw_congr {f g : Nat → List Tr} {n : Nat} (h : ∀ i, i < n → f i = g i) : ∀ k, k ≤ n → raw f n k = raw g n k
  | 0, _ => rfl
  | k + 1, hk => by rw [raw_succ, raw_succ, raw_congr h k (by omega), h k (by omega), h (n - 1 - k) (by omega)]
theorem rawJ_take (A B : List Tr) (i : Nat) (a : Tr) (h : A[i]? = some a) : rawJ (A.take (i + 1)) B = rawJ (A.take i) B ++ B.map fun b => .node a b := by
  rw [List.take_add_one, h]; simp [rawJ, List.flatMap_append]
theorem mapN_take (a : Tr) (B : List Tr) (j : Nat) (b : Tr) (h : B[j]? = some b) : (B.take (j + 1)).map (Tr.node a) = (B.take j).map (Tr.node a) ++ [.node a b] := by
  rw [List.take_add_one, h]; simp
theorem rawJ_length (A B : List Tr) : (rawJ A B).length = A.length * B.length := by
  unfold rawJ
  induction A with
  | nil => simp
  | cons a A ih => simp [List.flatMap_cons, ih, Nat.add_mul, Nat.add_comm]
def tab : Nat → List (List Tr)
  | 0 => [[.leaf]]
  | n + 1 => tab n ++ [srtT (raw (fun i => (tab n)[i]?.getD []) (n + 1) (n + 1))]
/-- All trees with n carets. -/
def TL (n : Nat) : List Tr := (tab n)[n]?.getD []
theorem tab_length : ∀ n, (tab n).length = n + 1
  | 0 => rfl
  | n + 1 => by simp [tab, tab_length n]
theorem tab_get : ∀ n i, i ≤ n → (tab n)[i]? = some (TL i)
  | 0, i, h => by obtain rfl : i = 0 := by omega
                  rfl
  | n + 1, i, h => by
    rcases Nat.lt_or_ge i (n + 1) with h1 | h1
    · rw [tab, List.getElem?_append_left (by rw [tab_length]; exact h1)]; exact tab_get n i (by omega)
    · obtain rfl : i = n + 1 := by omega
      unfold TL
      rw [tab, List.getElem?_append_right (by rw [tab_length]; exact Nat.le_refl _), tab_length, Nat.sub_self]
      rfl
theorem TL_zero : TL 0 = [.leaf] := rfl
theorem TL_succ (n : Nat) : TL (n + 1) = srtT (raw TL (n + 1) (n + 1)) := by
  have h := tab_get (n + 1) (n + 1) (Nat.le_refl _)
  rw [tab, List.getElem?_append_right (by rw [tab_length]; exact Nat.le_refl _), tab_length, Nat.sub_self] at h
  have h := (Option.some.inj h).symm
  rw [h]
  congr 1
  exact raw_congr (fun i hi => by show ((tab n)[i]?).getD [] = TL i; rw [tab_get n i (by omega)]; rfl) _ (Nat.le_refl _)
theorem tab_eq : ∀ n, tab n = (List.range (n + 1)).map TL := by
  intro n
  apply List.ext_getElem?
  intro i
  by_cases h : i < n + 1
  · rw [tab_get n i (by omega), List.getElem?_map, List.getElem?_range h]; rfl
  · rw [List.getElem?_eq_none (by rw [tab_length]; omega), List.getElem?_eq_none (by simp; omega)]
theorem TL_carets : ∀ n, ∀ T ∈ TL n, T.carets = n
  | 0, T, h => by
    rw [TL_zero, List.mem_singleton] at h
    subst h; rfl
  | n + 1, T, h => by
    rw [TL_succ] at h
    have h := (srtT_perm _).mem_iff.1 h
    unfold raw rawJ at h
    obtain ⟨i, hi, h⟩ := List.mem_flatMap.1 h
    obtain ⟨a, ha, h⟩ := List.mem_flatMap.1 h
    obtain ⟨b, hb, rfl⟩ := List.mem_map.1 h
    have hi := List.mem_range.1 hi
    have h1 := TL_carets i a ha
    have h2 := TL_carets (n + 1 - 1 - i) b hb
    simp only [Tr.carets]
    omega
theorem raw_length_succ (f : Nat → List Tr) (n k : Nat) : (raw f n (k + 1)).length = (raw f n k).length + (f k).length * (f (n - 1 - k)).length := by rw [raw_succ, List.length_append, rawJ_length]
theorem TL_length_succ (n : Nat) : (TL (n + 1)).length = (raw TL (n + 1) (n + 1)).length := by rw [TL_succ]; exact (srtT_perm _).length_eq
theorem TL_lens : (TL 0).length = 1 ∧ (TL 1).length = 1 ∧ (TL 2).length = 2 ∧ (TL 3).length = 5 ∧ (TL 4).length = 14 := by
  have h0 : (TL 0).length = 1 := rfl
  have r0 : ∀ n, (raw TL n 0).length = 0 := fun n => rfl
  have h1 : (TL 1).length = 1 := by rw [TL_length_succ, raw_length_succ, r0, h0]
  have h2 : (TL 2).length = 2 := by rw [TL_length_succ, raw_length_succ, raw_length_succ, r0, h0, h1]
  have h3 : (TL 3).length = 5 := by rw [TL_length_succ, raw_length_succ, raw_length_succ, raw_length_succ, r0, h0, h1, h2]
  have h4 : (TL 4).length = 14 := by rw [TL_length_succ, raw_length_succ, raw_length_succ, raw_length_succ, raw_length_succ, r0, h0, h1, h2, h3]
  exact ⟨h0, h1, h2, h3, h4⟩
theorem TL_le (n : Nat) (h : n ≤ 4) : (TL n).length ≤ 14 := by
  obtain ⟨h0, h1, h2, h3, h4⟩ := TL_lens
  rcases (by omega : n = 0 ∨ n = 1 ∨ n = 2 ∨ n = 3 ∨ n = 4) with rfl | rfl | rfl | rfl | rfl <;> omega
theorem raw_le (n k : Nat) (hn : n ≤ 4) (hk : k ≤ n) : (raw TL n k).length ≤ k * 196 := by
  induction k with
  | zero => simp [raw]
  | succ k ih =>
    rw [raw_length_succ]
    have h1 := TL_le k (by omega)
    have h2 := TL_le (n - 1 - k) (by omega)
    have h3 := Nat.mul_le_mul h1 h2
    have := ih (by omega)
    omega
/-- What stands at the end of an insertion from behind. -/
theorem ins_back (t : ByteArray) (s : List ByteArray) (j : Nat) (hs : Srt s) (hj : j ≤ s.length) (h1 : ∀ i y, j ≤ i → s[i]? = some y → blt t y = true) (h2 : ∀ y, 0 < j → s[j - 1]? = some y → blt t y = false) : s.take j ++ t :: s.drop j = ins t s := by
  refine srt_unique _ _ ?_ ?_ (ins_srt t s hs)
  · refine List.Perm.trans ?_ (ins_perm t s).symm
    refine List.perm_middle.trans ?_
    rw [List.take_append_drop]
  · have hs' : (s.take j ++ s.drop j).Pairwise fun a b => blt b a = false := by rw [List.take_append_drop]; exact hs
    have hp := List.pairwise_append.1 hs'
    unfold Srt
    rw [List.pairwise_append]
    refine ⟨hp.1, List.pairwise_cons.2 ⟨fun y hy => ?_, hp.2.1⟩, fun a ha b hb => ?_⟩
    · obtain ⟨i, hi, rfl⟩ := List.mem_iff_getElem.1 hy
      have hi2 : j + i < s.length := by rw [List.length_drop] at hi; omega
      have h9 : (s.drop j)[i] = s[j + i] := List.getElem_drop ..
      rw [h9]
      have := h1 (j + i) _ (by omega) (List.getElem?_eq_getElem hi2)
      cases hc : blt s[j + i] t with
      | false => rfl
      | true => have h3 := blt_trans this hc; rw [blt_irrefl] at h3; cases h3
    · rcases List.mem_cons.1 hb with rfl | hb
      · have hj0 : 0 < j := by
          rcases Nat.eq_zero_or_pos j with rfl | h
          · rw [List.take_zero] at ha; cases ha
          · exact h
        have hk := List.getElem?_eq_getElem (show j - 1 < s.length by omega)
        have h3 := h2 _ hj0 hk
        obtain ⟨i, hi, rfl⟩ := List.mem_iff_getElem.1 ha
        rw [List.length_take] at hi
        rw [List.getElem_take]
        rcases Nat.lt_or_ge i (j - 1) with h4 | h4
        · have h5 := List.pairwise_iff_getElem.1 hs i (j - 1) (by omega) (by omega) h4
          exact blt_ntrans h3 h5
        · obtain rfl : i = j - 1 := by omega
          exact h3
      · exact hp.2.2 a ha b hb
end Go.Proofs.Ytfjhecilkeikiaa.N
/- Tables of numbers: the laws' own helpers over them: copies, likeness, marks. -/
namespace Go.Proofs.Ytfjhecilkeikiaa.N
open Go.RowKit
set_option linter.unusedVariables false
set_option linter.unusedSimpArgs false

end Go.Proofs.Ytfjhecilkeikiaa.N
