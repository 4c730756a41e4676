import Derived.Test.YtpmmajfdcicjiaaGreatG1RFnHalvesAndShifts
import Derived.Test.YtpmmajfdcicjiaaGreatG3RFnHalvesAndShifts
import Derived.Test.YtpmmajfdcicjiaaGreatG4RFnHalvesAndShifts
/- A text filled: plain Lean. -/
namespace Go.Proofs.YtpmmajfdcicjiaaGreat.N
set_option linter.unusedVariables false
set_option linter.unusedSimpArgs false

def fillP : List UInt8 → List ByteArray → List UInt8
  | [], _ => []
  | c :: l, ps => if c = 46 then (match ps with | p :: ps' => p.toList ++ fillP l ps' | [] => fillP l []) else c :: fillP l ps
theorem fillP_dot (l : List UInt8) (p : ByteArray) (ps : List ByteArray) : fillP (46 :: l) (p :: ps) = p.toList ++ fillP l ps := by simp [fillP]
theorem fillP_other (c : UInt8) (l : List UInt8) (ps : List ByteArray) (h : c ≠ 46) : fillP (c :: l) ps = c :: fillP l ps := by simp [fillP, h]
theorem fill_step_dot (l : List UInt8) (ps : List ByteArray) (j k : Nat) (hj : l[j]? = some 46) (hk : k < ps.length) : fillP (l.drop j) (ps.drop k) = ps[k].toList ++ fillP (l.drop (j + 1)) (ps.drop (k + 1)) := by
  obtain ⟨h1, h2⟩ := List.getElem?_eq_some_iff.1 hj
  rw [List.drop_eq_getElem_cons h1, List.drop_eq_getElem_cons hk, h2, fillP_dot]
theorem fill_step_other (l : List UInt8) (ps : List ByteArray) (j k : Nat) (c : UInt8) (hj : l[j]? = some c) (hc : c ≠ 46) : fillP (l.drop j) (ps.drop k) = c :: fillP (l.drop (j + 1)) (ps.drop k) := by
  obtain ⟨h1, h2⟩ := List.getElem?_eq_some_iff.1 hj
  rw [List.drop_eq_getElem_cons h1, h2, fillP_other _ _ _ hc]
theorem dots_lt (l : List UInt8) (j : Nat) (hj : l[j]? = some 46) : dots (l.take j) < dots l := by
  obtain ⟨h1, h2⟩ := List.getElem?_eq_some_iff.1 hj
  have h3 := List.take_append_drop j l
  rw [List.drop_eq_getElem_cons h1, h2] at h3
  have h4 : dots l = dots (l.take j) + dots (46 :: l.drop (j + 1)) := by rw [← dots_app, h3]
  have h6 : dots (46 :: l.drop (j + 1)) = dots (l.drop (j + 1)) + 1 := by simp [dots]
  omega
end Go.Proofs.YtpmmajfdcicjiaaGreat.N
/- Halves of reduced pairs; joins, parts, products: plain Lean. -/
namespace Go.Proofs.YtpmmajfdcicjiaaGreat.N
set_option linter.unusedVariables false
set_option linter.unusedSimpArgs false

theorem both_nil {A B : Tr} : bothT A B = [] ↔ ∀ k, k ∈ expo A 0 → k ∈ expo B 0 → False := by
  unfold bothT
  rw [List.filter_eq_nil_iff]
  constructor
  · intro h k h1 h2; exact h k h1 (by simpa using h2)
  · intro h k h1 h2; exact h k h1 (by simpa using h2)
theorem red_halves {l r a b : Tr} (h : bothT (.node l r) (.node a b) = []) (hc : l.carets = a.carets) (hcc : r.carets = b.carets) : bothT l a = [] ∧ bothT r b = [] := by
  by_cases h1 : l = .leaf ∧ r = .leaf
  · obtain ⟨rfl, rfl⟩ := h1
    exact ⟨rfl, rfl⟩
  by_cases h2 : a = .leaf ∧ b = .leaf
  · obtain ⟨rfl, rfl⟩ := h2
    exact ⟨both_zero hc, both_zero hcc⟩
  rw [both_nil] at h
  refine ⟨both_nil.2 fun k k1 k2 => h k ?_ ?_, both_nil.2 fun k k1 k2 => h (k + (l.carets + 1)) ?_ ?_⟩
  · rw [expo_node h1]; exact List.mem_append_left _ k1
  · rw [expo_node h2]; exact List.mem_append_left _ k2
  · rw [expo_node h1, expo_shift]; exact List.mem_append_right _ (List.mem_map_of_mem k1)
  · rw [expo_node h2, hc, expo_shift]; exact List.mem_append_right _ (List.mem_map_of_mem k2)

def join : Tr → Tr → Tr
  | .leaf, b => b
  | .node l r, .leaf => .node l r
  | .node l r, .node a b => .node (join l a) (join r b)
def Part : Tr → Tr → Prop
  | .leaf, _ => True
  | .node _ _, .leaf => False
  | .node l r, .node a b => Part l a ∧ Part r b
theorem part_refl : ∀ T : Tr, Part T T
  | .leaf => trivial
  | .node l r => ⟨part_refl l, part_refl r⟩
theorem part_join_l : ∀ a b : Tr, Part a (join a b)
  | .leaf, b => trivial
  | .node l r, .leaf => part_refl (.node l r)
  | .node l r, .node a b => ⟨part_join_l l a, part_join_l r b⟩
theorem part_join_r : ∀ a b : Tr, Part b (join a b)
  | .leaf, b => part_refl b
  | .node l r, .leaf => trivial
  | .node l r, .node a b => ⟨part_join_r l a, part_join_r r b⟩
theorem join_carets : ∀ a b : Tr, (join a b).carets ≤ a.carets + b.carets
  | .leaf, b => by simp only [join, Tr.carets]; omega
  | .node l r, .leaf => by simp only [join, Tr.carets]; omega
  | .node l r, .node a b => by have := join_carets l a; have := join_carets r b; simp only [join, Tr.carets]; omega
def partsT : Tr → Tr → List Tr
  | .leaf, w => [w]
  | .node _ _, .leaf => []
  | .node l r, .node a b => partsT l a ++ partsT r b
theorem parts_length : ∀ t w : Tr, Part t w → (partsT t w).length = t.carets + 1
  | .leaf, w, _ => rfl
  | .node _ _, .leaf, h => h.elim
  | .node l r, .node a b, h => by simp only [partsT, List.length_append, parts_length l a h.1, parts_length r b h.2, Tr.carets]; omega
def sumc (L : List Tr) : Nat := (L.map Tr.carets).sum
theorem sumc_append (a b : List Tr) : sumc (a ++ b) = sumc a + sumc b := by simp [sumc]
theorem sumc_cons (a : Tr) (b : List Tr) : sumc (a :: b) = a.carets + sumc b := by simp [sumc]
theorem parts_sum : ∀ t w : Tr, Part t w → t.carets + sumc (partsT t w) = w.carets
  | .leaf, w, _ => by simp [partsT, sumc, Tr.carets]
  | .node _ _, .leaf, h => h.elim
  | .node l r, .node a b, h => by have := parts_sum l a h.1; have := parts_sum r b h.2; simp only [partsT, sumc_append, Tr.carets]; omega
theorem sumc_mem {L : List Tr} {t : Tr} (h : t ∈ L) : t.carets ≤ sumc L := by
  induction L with
  | nil => cases h
  | cons a L ih =>
    rw [sumc_cons]
    rcases List.mem_cons.1 h with rfl | h
    · omega
    · have := ih h; omega
theorem parts_le {t w p : Tr} (h : Part t w) (hp : p ∈ partsT t w) : p.carets ≤ w.carets := by have := sumc_mem hp; have := parts_sum t w h; omega
/-- A tree with the trees of a list in place of its leaves. -/
def fill (T : Tr) (L : List Tr) : Tr := T.grown (fun i => L.getD i .leaf) 0
theorem grown_sum (L : List Tr) : ∀ (T : Tr) (k : Nat), k + T.carets < L.length → (T.grown (fun i => L.getD i .leaf) k).carets = T.carets + sumc ((L.drop k).take (T.carets + 1))
  | .leaf, k, h => by
    simp only [Tr.carets] at h
    rw [List.drop_eq_getElem_cons (by omega)]
    simp only [Tr.grown, Tr.carets, List.take_succ_cons, List.take_zero, sumc_cons]
    rw [List.getD_eq_getElem?_getD, List.getElem?_eq_getElem (by omega)]
    simp [sumc]
  | .node l r, k, h => by
    simp only [Tr.carets] at h
    have h1 := grown_sum L l k (by omega)
    have h2 := grown_sum L r (k + (l.carets + 1)) (by omega)
    have e : (Tr.node l r).carets + 1 = (l.carets + 1) + (r.carets + 1) := by simp only [Tr.carets]; omega
    rw [e, List.take_add, sumc_append, List.drop_drop]
    simp only [Tr.grown, Tr.carets]
    omega
theorem fill_carets (T : Tr) (L : List Tr) (h : L.length = T.carets + 1) : (fill T L).carets = T.carets + sumc L := by
  unfold fill
  rw [grown_sum L T 0 (by omega), List.drop_zero, List.take_of_length_le (by omega)]
theorem fill_txt (L : List Tr) : ∀ (T : Tr) (k : Nat) (x : List UInt8), k + T.carets < L.length → fillP (T.txt ++ x) ((L.drop k).map tx) = (T.grown (fun i => L.getD i .leaf) k).txt ++ fillP x ((L.drop (k + (T.carets + 1))).map tx)
  | .leaf, k, x, h => by
    simp only [Tr.carets] at h
    rw [List.drop_eq_getElem_cons (show k < L.length by omega), List.map_cons]
    show fillP (46 :: x) _ = _
    rw [fillP_dot]
    simp only [Tr.grown, Tr.carets, Nat.zero_add]
    rw [List.getD_eq_getElem?_getD, List.getElem?_eq_getElem (by omega), show (tx L[k]).toList = L[k].txt from S_toList _]
    rfl
  | .node l r, k, x, h => by
    simp only [Tr.carets] at h
    rw [txt_node_app, fillP_other _ _ _ (by decide), fill_txt L l k _ (by omega), fill_txt L r (k + (l.carets + 1)) _ (by omega), fillP_other _ _ _ (by decide)]
    have e : k + (l.carets + 1) + (r.carets + 1) = k + ((Tr.node l r).carets + 1) := by simp only [Tr.carets]; omega
    rw [e]
    simp [Tr.grown, Tr.txt]
theorem fillP_txt (T : Tr) (L : List Tr) (h : L.length = T.carets + 1) : fillP T.txt (L.map tx) = (fill T L).txt := by
  have := fill_txt L T 0 [] (by omega)
  rw [List.append_nil, List.drop_zero] at this
  rw [this]
  simp [fill, fillP]
/-- The addresses of leaves, and what is at an address. -/
def addrs : Tr → List UInt8 → List (List UInt8)
  | .leaf, a => [a]
  | .node l r, a => addrs l (a ++ [48]) ++ addrs r (a ++ [49])
def atT : List UInt8 → Tr → Option Tr
  | [], t => some t
  | _ :: _, .leaf => none
  | c :: l, .node a b => if c = 48 then atT l a else if c = 49 then atT l b else none
theorem addrs_length : ∀ (T : Tr) (a : List UInt8), (addrs T a).length = T.carets + 1
  | .leaf, _ => rfl
  | .node l r, a => by simp only [addrs, List.length_append, addrs_length l, addrs_length r, Tr.carets]; omega
theorem addrs_pre : ∀ (T : Tr) (p a : List UInt8), addrs T (p ++ a) = (addrs T a).map (p ++ ·)
  | .leaf, p, a => rfl
  | .node l r, p, a => by simp only [addrs, List.map_append, List.append_assoc, addrs_pre l p, addrs_pre r p]
theorem addrs_depth : ∀ (T : Tr) (a x : List UInt8), x ∈ addrs T a → x.length ≤ a.length + T.depth
  | .leaf, a, x, h => by simp [addrs] at h; subst h; simp [Tr.depth]
  | .node l r, a, x, h => by
    simp only [addrs, List.mem_append] at h
    simp only [Tr.depth]
    rcases h with h | h
    · have := addrs_depth l _ x h; simp at this; omega
    · have := addrs_depth r _ x h; simp at this; omega
theorem at_parts : ∀ (t w : Tr), Part t w → ∀ (i : Nat) (a : List UInt8), (addrs t [])[i]? = some a → atT a w = (partsT t w)[i]?
  | .leaf, w, _, i, a, h => by
    cases i with
    | zero => simp [addrs] at h; subst h; rfl
    | succ i => simp [addrs] at h
  | .node _ _, .leaf, h, _, _, _ => h.elim
  | .node l r, .node a b, h, i, x, hx => by
    simp only [addrs, List.nil_append] at hx
    rw [show addrs l [48] = (addrs l []).map ([48] ++ ·) from addrs_pre l [48] [], show addrs r [49] = (addrs r []).map ([49] ++ ·) from addrs_pre r [49] [], List.getElem?_append] at hx
    simp only [List.length_map, addrs_length] at hx
    simp only [partsT]
    rw [List.getElem?_append, parts_length l a h.1]
    split at hx
    · rename_i hi
      rw [if_pos hi]
      rw [List.getElem?_map, Option.map_eq_some_iff] at hx
      obtain ⟨y, hy, rfl⟩ := hx
      have := at_parts l a h.1 i y hy
      simpa [atT] using this
    · rename_i hi
      rw [if_neg hi]
      rw [List.getElem?_map, Option.map_eq_some_iff] at hx
      obtain ⟨y, hy, rfl⟩ := hx
      have := at_parts r b h.2 _ y hy
      simpa [atT] using this
/-- The product before it is reduced. -/
def mul0 (p q : Tr × Tr) : Tr × Tr := (fill p.1 (partsT p.2 (join p.2 q.1)), fill q.2 (partsT q.1 (join p.2 q.1)))
def mul (p q : Tr × Tr) : Tr × Tr := red (mul0 p q)
theorem mul0_carets {p q : Tr × Tr} (hp : p.1.carets = p.2.carets) (hq : q.1.carets = q.2.carets) : (mul0 p q).1.carets = (join p.2 q.1).carets ∧ (mul0 p q).2.carets = (join p.2 q.1).carets := by
  have h1 := part_join_l p.2 q.1
  have h2 := part_join_r p.2 q.1
  have l1 := parts_length _ _ h1
  have l2 := parts_length _ _ h2
  have s1 := parts_sum _ _ h1
  have s2 := parts_sum _ _ h2
  unfold mul0
  simp only
  rw [fill_carets _ _ (by omega), fill_carets _ _ (by omega)]
  omega
theorem mul_carets {p q : Tr × Tr} (hp : p.1.carets = p.2.carets) (hq : q.1.carets = q.2.carets) : (mul p q).1.carets = (mul p q).2.carets ∧ (mul p q).2.carets ≤ p.2.carets + q.1.carets := by
  obtain ⟨h1, h2⟩ := mul0_carets hp hq
  have h3 := red_same (p := mul0 p q) (by rw [h1, h2])
  have h4 := red_le (mul0 p q)
  have h5 := join_carets p.2 q.1
  unfold mul
  exact ⟨h3, by omega⟩
end Go.Proofs.YtpmmajfdcicjiaaGreat.N
