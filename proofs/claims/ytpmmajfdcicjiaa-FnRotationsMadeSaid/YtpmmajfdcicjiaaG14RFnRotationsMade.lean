import Derived.Test.YtpmmajfdcicjiaaG1RFnRotationsMade
import Derived.Test.YtpmmajfdcicjiaaG12RFnRotationsMade
import Derived.Test.YtpmmajfdcicjiaaG2RFnRotationsMade
import Derived.Test.YtpmmajfdcicjiaaProg
import Derived.Test.YtpmmajfdcicjiaaG10RFnRotationsMade
import Derived.Deep.LoopGhost
import Derived.Deep.QuietTactic
import Derived.BigQuiet
import Derived.Deep.OwnRows
import Derived.KernelRfl
/- Neighbours of trees, texts in order: plain Lean. -/
namespace Go.Proofs.Ytpmmajfdcicjiaa.N
set_option linter.unusedVariables false
set_option linter.unusedSimpArgs false

/-- The order of texts. -/
def blt (a b : ByteArray) : Bool := Op.bytesLess a.toList b.toList
theorem bl_irrefl : ∀ l : List UInt8, Op.bytesLess l l = false
  | [] => rfl
  | a :: l => by simp [Op.bytesLess, bl_irrefl l, UInt8.lt_irrefl]
theorem bl_trans : ∀ a b c : List UInt8, Op.bytesLess a b = true → Op.bytesLess b c = true → Op.bytesLess a c = true
  | _, [], _, h, _ => by cases ‹List UInt8› <;> simp [Op.bytesLess] at h
  | _, _ :: _, [], _, h => by simp [Op.bytesLess] at h
  | [], _ :: _, _ :: _, _, _ => rfl
  | x :: a, y :: b, z :: c, h1, h2 => by
    simp only [Op.bytesLess, Bool.or_eq_true, decide_eq_true_eq, Bool.and_eq_true, beq_iff_eq] at h1 h2 ⊢
    rcases h1 with h1 | ⟨rfl, h1⟩
    · rcases h2 with h2 | ⟨rfl, h2⟩
      · exact .inl (UInt8.lt_trans h1 h2)
      · exact .inl h1
    · rcases h2 with h2 | ⟨rfl, h2⟩
      · exact .inl h2
      · exact .inr ⟨rfl, bl_trans a b c h1 h2⟩
theorem bl_total : ∀ a b : List UInt8, Op.bytesLess a b = false → Op.bytesLess b a = false → a = b
  | [], [], _, _ => rfl
  | [], _ :: _, h, _ => by simp [Op.bytesLess] at h
  | _ :: _, [], _, h => by simp [Op.bytesLess] at h
  | x :: a, y :: b, h1, h2 => by
    simp only [Op.bytesLess, Bool.or_eq_false_iff, decide_eq_false_iff_not, Bool.and_eq_false_imp, beq_iff_eq] at h1 h2
    have e : x = y := UInt8.le_antisymm (UInt8.not_lt.1 h2.1) (UInt8.not_lt.1 h1.1)
    subst e
    rw [bl_total a b (h1.2 rfl) (h2.2 rfl)]
theorem ba_ext {a b : ByteArray} (h : a.toList = b.toList) : a = b := by
  rw [S_of a, h, ← S_of b]
theorem blt_irrefl (a : ByteArray) : blt a a = false := bl_irrefl _
theorem blt_trans {a b c : ByteArray} (h1 : blt a b = true) (h2 : blt b c = true) : blt a c = true := bl_trans _ _ _ h1 h2
theorem blt_total {a b : ByteArray} (h1 : blt a b = false) (h2 : blt b a = false) : a = b := ba_ext (bl_total _ _ h1 h2)
theorem blt_ntrans {a b c : ByteArray} (h1 : blt a b = false) (h2 : blt b c = false) : blt a c = false := by
  cases h : blt a c with
  | false => rfl
  | true =>
    cases h3 : blt b a with
    | true => rw [blt_trans h3 h] at h2; cases h2
    | false => rw [blt_total h1 h3, h2] at h; cases h
/-- x laid into l in order. -/
def ins (x : ByteArray) : List ByteArray → List ByteArray
  | [] => [x]
  | y :: l => if blt y x then y :: ins x l else x :: y :: l
theorem ins_at (x : ByteArray) : ∀ (l : List ByteArray) (k : Nat), k ≤ l.length → (∀ j y, j < k → l[j]? = some y → blt y x = true) → (∀ y, l[k]? = some y → blt y x = false) → ins x l = l.take k ++ x :: l.drop k
  | [], k, hk, _, _ => by simp [ins]
  | y :: l, 0, _, _, h2 => by simp [ins, h2 y rfl]
  | y :: l, k + 1, hk, h1, h2 => by
    simp only [ins, h1 0 y (by omega) rfl, if_true, List.take_succ_cons, List.drop_succ_cons, List.cons_append]
    rw [ins_at x l k (by simpa using hk) (fun j z hj hz => h1 (j + 1) z (by omega) (by simpa using hz)) (fun z hz => h2 z (by simpa using hz))]
theorem ins_length (x : ByteArray) : ∀ l, (ins x l).length = l.length + 1
  | [] => rfl
  | y :: l => by simp only [ins]; split <;> simp [ins_length x l]
theorem ins_perm (x : ByteArray) : ∀ l, (ins x l).Perm (x :: l)
  | [] => List.Perm.refl _
  | y :: l => by
    simp only [ins]
    split
    · exact (List.Perm.cons y (ins_perm x l)).trans (List.Perm.swap x y l)
    · exact List.Perm.refl _
/-- In order: no later one is less than an earlier one. -/
def Srt (l : List ByteArray) : Prop := l.Pairwise fun a b => blt b a = false
theorem ins_srt (x : ByteArray) : ∀ l, Srt l → Srt (ins x l)
  | [], _ => List.pairwise_singleton _ _
  | y :: l, h => by
    have h' := List.pairwise_cons.1 h
    simp only [ins]
    split
    · rename_i hy
      refine List.pairwise_cons.2 ⟨fun z hz => ?_, ins_srt x l h'.2⟩
      rcases List.mem_cons.1 ((ins_perm x l).mem_iff.1 hz) with rfl | hz
      · cases hc : blt z y with
        | false => rfl
        | true => have := blt_trans hc hy; rw [blt_irrefl] at this; cases this
      · exact h'.1 z hz
    · rename_i hy
      have hy : blt y x = false := by simpa using hy
      refine List.pairwise_cons.2 ⟨fun z hz => ?_, h⟩
      rcases List.mem_cons.1 hz with rfl | hz
      · exact hy
      · exact blt_ntrans (h'.1 z hz) hy
def srt (l : List ByteArray) : List ByteArray := l.foldl (fun acc x => ins x acc) []
theorem srt_snoc (l : List ByteArray) (x : ByteArray) : srt (l ++ [x]) = ins x (srt l) := by simp [srt, List.foldl_append]
theorem foldl_ins_perm : ∀ (l acc : List ByteArray), (l.foldl (fun acc x => ins x acc) acc).Perm (acc ++ l)
  | [], acc => by simp
  | x :: l, acc => by
    refine (foldl_ins_perm l (ins x acc)).trans ?_
    refine ((ins_perm x acc).append_right l).trans ?_
    exact (List.perm_middle (a := x) (l₁ := acc) (l₂ := l)).symm
theorem foldl_ins_srt : ∀ (l acc : List ByteArray), Srt acc → Srt (l.foldl (fun acc x => ins x acc) acc)
  | [], _, h => h
  | x :: l, acc, h => foldl_ins_srt l _ (ins_srt x acc h)
theorem srt_perm (l : List ByteArray) : (srt l).Perm l := foldl_ins_perm l []
theorem srt_srt (l : List ByteArray) : Srt (srt l) := foldl_ins_srt l [] List.Pairwise.nil
theorem srt_length (l : List ByteArray) : (srt l).length = l.length := (srt_perm l).length_eq
theorem srt_unique : ∀ (a b : List ByteArray), a.Perm b → Srt a → Srt b → a = b
  | [], b, h, _, _ => (List.nil_perm.1 h).symm
  | x :: a, [], h, _, _ => by cases List.perm_nil.1 h
  | x :: a, y :: b, h, h1, h2 => by
    have h1' := List.pairwise_cons.1 h1
    have h2' := List.pairwise_cons.1 h2
    have e : x = y := by
      rcases List.mem_cons.1 (h.mem_iff.1 (List.mem_cons_self (a := x) (l := a))) with e | m1
      · exact e
      · rcases List.mem_cons.1 (h.mem_iff.2 (List.mem_cons_self (a := y) (l := b))) with e | m2
        · exact e.symm
        · exact blt_total (h2'.1 x m1) (h1'.1 y m2) |>.symm ▸ rfl
    subst e
    rw [srt_unique a b (List.Perm.cons_inv h) h1'.2 h2'.2]

/-- The trees one rotation away, in the order of places. -/
def moves (bk : Bool) (T : Tr) : List Tr := (T.turns bk).filterMap fun a => turnT bk a T
theorem moves_length (bk : Bool) (T : Tr) : (moves bk T).length = (T.turns bk).length := by
  unfold moves Tr.turns
  induction T.places [] with
  | nil => rfl
  | cons a l ih =>
    by_cases h : (turnT bk a T).isSome
    · obtain ⟨U, hU⟩ := Option.isSome_iff_exists.1 h
      rw [List.filter_cons_of_pos (p := fun a => (turnT bk a T).isSome) h]; simp only [List.filterMap_cons, hU, List.length_cons, ih]
    · rw [List.filter_cons_of_neg (p := fun a => (turnT bk a T).isSome) h]; exact ih
theorem moves_take (bk : Bool) (T : Tr) (k : Nat) (a : List UInt8) (h : (T.turns bk)[k]? = some a) : ∃ U, turnT bk a T = some U ∧ ((T.turns bk).take (k + 1)).filterMap (fun a => turnT bk a T) = ((T.turns bk).take k).filterMap (fun a => turnT bk a T) ++ [U] := by
  have hm : a ∈ T.turns bk := List.mem_of_getElem? h
  have hs : (turnT bk a T).isSome := by unfold Tr.turns at hm; exact (List.mem_filter.1 hm).2
  obtain ⟨U, hU⟩ := Option.isSome_iff_exists.1 hs
  refine ⟨U, hU, ?_⟩
  rw [List.take_add_one, h, List.filterMap_append]
  simp [hU]
theorem moves_carets {bk : Bool} {T U : Tr} (h : U ∈ moves bk T) : U.carets = T.carets := by
  unfold moves at h
  obtain ⟨a, _, h⟩ := List.mem_filterMap.1 h
  exact turnT_carets h
def near0 (T : Tr) : List Tr := moves false T ++ moves true T
/-- The texts of all neighbours, in order. -/
def nearS (T : Tr) : List ByteArray := srt ((near0 T).map tx)
theorem near0_length (T : Tr) : (near0 T).length ≤ 2 * T.carets := by
  unfold near0
  rw [List.length_append, moves_length, moves_length]
  have := turns_length false T; have := turns_length true T; omega
theorem near0_carets {T U : Tr} (h : U ∈ near0 T) : U.carets = T.carets := by
  rcases List.mem_append.1 h with h | h <;> exact moves_carets h
end Go.Proofs.Ytpmmajfdcicjiaa.N
/- Tables of numbers: the laws' own helpers over them: copies, likeness, marks. -/
namespace Go.Proofs.Ytpmmajfdcicjiaa.N
open Go.RowKit
set_option linter.unusedVariables false
set_option linter.unusedSimpArgs false

theorem Own.made (w : World) (n : Nat) (z : Value) (e : TypeId) (base : Nat) (hb : base ≤ w.heap.size) (hm : n ≤ maxLen) : Own (w.alloc (.cells (madeCells #[z] n) e)) base e (.slice (some ⟨w.heap.size, 0, none⟩) n n) (List.replicate n z) := by
  refine ⟨by simp, .inr ⟨w.heap.size, n, madeCells #[z] n, by simp, hb, heap_alloc_new w _, by simp, hm, by rw [size_madeCells]; simp, ?_⟩⟩
  simp only [List.length_replicate, Nat.mul_one]
  rw [List.take_of_length_le (by rw [Array.length_toList, size_madeCells]; exact Nat.le_refl _)]
  apply List.ext_getElem
  · simp [madeCells]
  · intro i h1 h2; simp [madeCells, Nat.mod_one]
theorem copy_step (bs zs : List Value) (k : Nat) (u : Value) (ha : bs.length = k) (hk : k < zs.length) : (bs ++ zs.drop k).set k u = (bs ++ [u]) ++ zs.drop (k + 1) := by
  rw [List.set_append_right _ _ (by omega), ha, Nat.sub_self, List.drop_eq_getElem_cons hk, List.set_cons_zero]
  simp
end Go.Proofs.Ytpmmajfdcicjiaa.N
