import Derived.Test.YtpmmajfdcicjiaaG1RFnRotationsMade
import Derived.Test.YtpmmajfdcicjiaaG3RFnRotationsMade
import Derived.Test.YtpmmajfdcicjiaaG4RFnRotationsMade
import Derived.Test.YtpmmajfdcicjiaaG24RFnRotationsMade
import Derived.Test.YtpmmajfdcicjiaaG2RFnRotationsMade
import Derived.Test.YtpmmajfdcicjiaaProg
import Derived.Test.YtpmmajfdcicjiaaG5RFnRotationsMade
import Derived.Test.YtpmmajfdcicjiaaG12RFnRotationsMade
import Derived.Test.YtpmmajfdcicjiaaG7RFnRotationsMade
import Derived.Test.YtpmmajfdcicjiaaG22RFnRotationsMade
import Derived.Deep.LoopGhost
import Derived.Deep.RegionHeld3
import Derived.Deep.QuietTactic
import Derived.StillTailTactics
/- Halves of reduced pairs; joins, parts, products: plain Lean. -/
namespace Go.Proofs.Ytpmmajfdcicjiaa.N
set_option linter.unusedVariables false
set_option linter.unusedSimpArgs false

theorem both_nil {A B : Tr} : bothT A B = [] ↔ ∀ k, k ∈ expo A 0 → k ∈ expo B 0 → False := by
  unfold bothT
  rw [List.filter_eq_nil_iff]
  constructor
  · intro h k h1 h2; exact h k h1 (by simpa using h2)
  · intro h k h1 h2; exact h k h1 (by simpa using h2)
theorem red_halves {l r a b : Tr} (h : bothT (.node l r) (.node a b) = []) (hc : l.carets = a.carets) (hcc : r.carets = b.carets) : bothT l a = [] ∧ bothT r b = [] := by
  by_cases h1 : l = .leaf ∧ r = .leaf
  · obtain ⟨rfl, rfl⟩ := h1
    exact ⟨rfl, rfl⟩
  by_cases h2 : a = .leaf ∧ b = .leaf
  · obtain ⟨rfl, rfl⟩ := h2
    exact ⟨both_zero hc, both_zero hcc⟩
  rw [both_nil] at h
  refine ⟨both_nil.2 fun k k1 k2 => h k ?_ ?_, both_nil.2 fun k k1 k2 => h (k + (l.carets + 1)) ?_ ?_⟩
  · rw [expo_node h1]; exact List.mem_append_left _ k1
  · rw [expo_node h2]; exact List.mem_append_left _ k2
  · rw [expo_node h1, expo_shift]; exact List.mem_append_right _ (List.mem_map_of_mem k1)
  · rw [expo_node h2, hc, expo_shift]; exact List.mem_append_right _ (List.mem_map_of_mem k2)

def join : Tr → Tr → Tr
  | .leaf, b => b
  | .node l r, .leaf => .node l r
  | .node l r, .node a b => .node (join l a) (join r b)
def Part : Tr → Tr → Prop
  | .leaf, _ => True
  | .node _ _, .leaf => False
  | .node l r, .node a b => Part l a ∧ Part r b
theorem part_refl : ∀ T : Tr, Part T T
  | .leaf => trivial
  | .node l r => ⟨part_refl l, part_refl r⟩
theorem part_join_l : ∀ a b : Tr, Part a (join a b)
  | .leaf, b => trivial
  | .node l r, .leaf => part_refl (.node l r)
  | .node l r, .node a b => ⟨part_join_l l a, part_join_l r b⟩
theorem part_join_r : ∀ a b : Tr, Part b (join a b)
  | .leaf, b => part_refl b
  | .node l r, .leaf => trivial
  | .node l r, .node a b => ⟨part_join_r l a, part_join_r r b⟩
theorem join_carets : ∀ a b : Tr, (join a b).carets ≤ a.carets + b.carets
  | .leaf, b => by simp only [join, Tr.carets]; omega
  | .node l r, .leaf => by simp only [join, Tr.carets]; omega
  | .node l r, .node a b => by have := join_carets l a; have := join_carets r b; simp only [join, Tr.carets]; omega
def partsT : Tr → Tr → List Tr
  | .leaf, w => [w]
  | .node _ _, .leaf => []
  | .node l r, .node a b => partsT l a ++ partsT r b
theorem parts_length : ∀ t w : Tr, Part t w → (partsT t w).length = t.carets + 1
  | .leaf, w, _ => rfl
  | .node _ _, .leaf, h => h.elim
  | .node l r, .node a b, h => by simp only [partsT, List.length_append, parts_length l a h.1, parts_length r b h.2, Tr.carets]; omega
def sumc (L : List Tr) : Nat := (L.map Tr.carets).sum
theorem sumc_append (a b : List Tr) : sumc (a ++ b) = sumc a + sumc b := by simp [sumc]
theorem sumc_cons (a : Tr) (b : List Tr) : sumc (a :: b) = a.carets + sumc b := by simp [sumc]
theorem parts_sum : ∀ t w : Tr, Part t w → t.carets + sumc (partsT t w) = w.carets
  | .leaf, w, _ => by simp [partsT, sumc, Tr.carets]
  | .node _ _, .leaf, h => h.elim
  | .node l r, .node a b, h => by have := parts_sum l a h.1; have := parts_sum r b h.2; simp only [partsT, sumc_append, Tr.carets]; omega
theorem sumc_mem {L : List Tr} {t : Tr} (h : t ∈ L) : t.carets ≤ sumc L := by
  induction L with
  | nil => cases h
  | cons a L ih =>
    rw [sumc_cons]
    rcases List.mem_cons.1 h with rfl | h
    · omega
    · have := ih h; omega
theorem parts_le {t w p : Tr} (h : Part t w) (hp : p ∈ partsT t w) : p.carets ≤ w.carets := by have := sumc_mem hp; have := parts_sum t w h; omega
/-- A tree with the trees of a list in place of its leaves. -/
def fill (T : Tr) (L : List Tr) : Tr := T.grown (fun i => L.getD i .leaf) 0
theorem grown_sum (L : List Tr) : ∀ (T : Tr) (k : Nat), k + T.carets < L.length → (T.grown (fun i => L.getD i .leaf) k).carets = T.carets + sumc ((L.drop k).take (T.carets + 1))
  | .leaf, k, h => by
    simp only [Tr.carets] at h
    rw [List.drop_eq_getElem_cons (by omega)]
    simp only [Tr.grown, Tr.carets, List.take_succ_cons, List.take_zero, sumc_cons]
    rw [List.getD_eq_getElem?_getD, List.getElem?_eq_getElem (by omega)]
    simp [sumc]
  | .node l r, k, h => by
    simp only [Tr.carets] at h
    have h1 := grown_sum L l k (by omega)
    have h2 := grown_sum L r (k + (l.carets + 1)) (by omega)
    have e : (Tr.node l r).carets + 1 = (l.carets + 1) + (r.carets + 1) := by simp only [Tr.carets]; omega
    rw [e, List.take_add, sumc_append, List.drop_drop]
    simp only [Tr.grown, Tr.carets]
    omega
theorem fill_carets (T : Tr) (L : List Tr) (h : L.length = T.carets + 1) : (fill T L).carets = T.carets + sumc L := by
  unfold fill
  rw [grown_sum L T 0 (by omega), List.drop_zero, List.take_of_length_le (by omega)]
theorem fill_txt (L : List Tr) : ∀ (T : Tr) (k : Nat) (x : List UInt8), k + T.carets < L.length → fillP (T.txt ++ x) ((L.drop k).map tx) = (T.grown (fun i => L.getD i .leaf) k).txt ++ fillP x ((L.drop (k + (T.carets + 1))).map tx)
  | .leaf, k, x, h => by
    simp only [Tr.carets] at h
    rw [List.drop_eq_getElem_cons (show k < L.length by omega), List.map_cons]
    show fillP (46 :: x) _ = _
    rw [fillP_dot]
    simp only [Tr.grown, Tr.carets, Nat.zero_add]
    rw [List.getD_eq_getElem?_getD, List.getElem?_eq_getElem (by omega), show (tx L[k]).toList = L[k].txt from S_toList _]
    rfl
  | .node l r, k, x, h => by
    simp only [Tr.carets] at h
    rw [txt_node_app, fillP_other _ _ _ (by decide), fill_txt L l k _ (by omega), fill_txt L r (k + (l.carets + 1)) _ (by omega), fillP_other _ _ _ (by decide)]
    have e : k + (l.carets + 1) + (r.carets + 1) = k + ((Tr.node l r).carets + 1) := by simp only [Tr.carets]; omega
    rw [e]
    simp [Tr.grown, Tr.txt]
theorem fillP_txt (T : Tr) (L : List Tr) (h : L.length = T.carets + 1) : fillP T.txt (L.map tx) = (fill T L).txt := by
  have := fill_txt L T 0 [] (by omega)
  rw [List.append_nil, List.drop_zero] at this
  rw [this]
  simp [fill, fillP]
/-- The addresses of leaves, and what is at an address. -/
def addrs : Tr → List UInt8 → List (List UInt8)
  | .leaf, a => [a]
  | .node l r, a => addrs l (a ++ [48]) ++ addrs r (a ++ [49])
def atT : List UInt8 → Tr → Option Tr
  | [], t => some t
  | _ :: _, .leaf => none
  | c :: l, .node a b => if c = 48 then atT l a else if c = 49 then atT l b else none
theorem addrs_length : ∀ (T : Tr) (a : List UInt8), (addrs T a).length = T.carets + 1
  | .leaf, _ => rfl
  | .node l r, a => by simp only [addrs, List.length_append, addrs_length l, addrs_length r, Tr.carets]; omega
theorem addrs_pre : ∀ (T : Tr) (p a : List UInt8), addrs T (p ++ a) = (addrs T a).map (p ++ ·)
  | .leaf, p, a => rfl
  | .node l r, p, a => by simp only [addrs, List.map_append, List.append_assoc, addrs_pre l p, addrs_pre r p]
theorem addrs_depth : ∀ (T : Tr) (a x : List UInt8), x ∈ addrs T a → x.length ≤ a.length + T.depth
  | .leaf, a, x, h => by simp [addrs] at h; subst h; simp [Tr.depth]
  | .node l r, a, x, h => by
    simp only [addrs, List.mem_append] at h
    simp only [Tr.depth]
    rcases h with h | h
    · have := addrs_depth l _ x h; simp at this; omega
    · have := addrs_depth r _ x h; simp at this; omega
theorem at_parts : ∀ (t w : Tr), Part t w → ∀ (i : Nat) (a : List UInt8), (addrs t [])[i]? = some a → atT a w = (partsT t w)[i]?
  | .leaf, w, _, i, a, h => by
    cases i with
    | zero => simp [addrs] at h; subst h; rfl
    | succ i => simp [addrs] at h
  | .node _ _, .leaf, h, _, _, _ => h.elim
  | .node l r, .node a b, h, i, x, hx => by
    simp only [addrs, List.nil_append] at hx
    rw [show addrs l [48] = (addrs l []).map ([48] ++ ·) from addrs_pre l [48] [], show addrs r [49] = (addrs r []).map ([49] ++ ·) from addrs_pre r [49] [], List.getElem?_append] at hx
    simp only [List.length_map, addrs_length] at hx
    simp only [partsT]
    rw [List.getElem?_append, parts_length l a h.1]
    split at hx
    · rename_i hi
      rw [if_pos hi]
      rw [List.getElem?_map, Option.map_eq_some_iff] at hx
      obtain ⟨y, hy, rfl⟩ := hx
      have := at_parts l a h.1 i y hy
      simpa [atT] using this
    · rename_i hi
      rw [if_neg hi]
      rw [List.getElem?_map, Option.map_eq_some_iff] at hx
      obtain ⟨y, hy, rfl⟩ := hx
      have := at_parts r b h.2 _ y hy
      simpa [atT] using this
/-- The product before it is reduced. -/
def mul0 (p q : Tr × Tr) : Tr × Tr := (fill p.1 (partsT p.2 (join p.2 q.1)), fill q.2 (partsT q.1 (join p.2 q.1)))
def mul (p q : Tr × Tr) : Tr × Tr := red (mul0 p q)
theorem mul0_carets {p q : Tr × Tr} (hp : p.1.carets = p.2.carets) (hq : q.1.carets = q.2.carets) : (mul0 p q).1.carets = (join p.2 q.1).carets ∧ (mul0 p q).2.carets = (join p.2 q.1).carets := by
  have h1 := part_join_l p.2 q.1
  have h2 := part_join_r p.2 q.1
  have l1 := parts_length _ _ h1
  have l2 := parts_length _ _ h2
  have s1 := parts_sum _ _ h1
  have s2 := parts_sum _ _ h2
  unfold mul0
  simp only
  rw [fill_carets _ _ (by omega), fill_carets _ _ (by omega)]
  omega
theorem mul_carets {p q : Tr × Tr} (hp : p.1.carets = p.2.carets) (hq : q.1.carets = q.2.carets) : (mul p q).1.carets = (mul p q).2.carets ∧ (mul p q).2.carets ≤ p.2.carets + q.1.carets := by
  obtain ⟨h1, h2⟩ := mul0_carets hp hq
  have h3 := red_same (p := mul0 p q) (by rw [h1, h2])
  have h4 := red_le (mul0 p q)
  have h5 := join_carets p.2 q.1
  unfold mul
  exact ⟨h3, by omega⟩
end Go.Proofs.Ytpmmajfdcicjiaa.N
/- Products of pairs, as the program has them. -/
namespace Go.Proofs.Ytpmmajfdcicjiaa.N
open Go.RowKit
set_option linter.unusedVariables false
set_option linter.unusedSimpArgs false

set_option maxHeartbeats 3200000 in
set_option maxRecDepth 100000 in
theorem join_calls (A : Tr) : ∀ (B : Tr) (pa pb : Option Addr) (w : World), Rep w A pa → Rep w B pb →
    Calls Try.prog 186 #[.pointer pa, .pointer pb] w (GivesT w (join A B)) := by
  induction A with
  | leaf =>
    rintro B pa pb w rfl hb
    have HB := Lib.hid hb
    clear hb
    go_enter Try.func186, Try.ntmps186
    go_wp2_with fail
    go_ret
    exact ⟨pb, rfl, HB.out, Ext.refl _⟩
  | node l r ihl ihr =>
    intro B pa pb w ha hb
    cases B with
    | leaf =>
      obtain rfl := hb
      have HA := Lib.hid ha
      obtain ⟨b, pl, pr, rfl, _, _, _, _⟩ := ha.open
      clear ha
      go_enter Try.func186, Try.ntmps186
      go_wp2_with fail
      go_ret
      exact ⟨_, rfl, HA.out, Ext.refl _⟩
    | node x y =>
      obtain ⟨a, pl, pr, rfl, h0, h1, hl, hr⟩ := ha.open
      obtain ⟨b, ql, qr, rfl, g0, g1, gl, gr⟩ := hb.open
      have HL := Lib.hid (And.intro hl gl)
      have HR := Lib.hid (And.intro hr gr)
      clear ha hb hl hr gl gr
      go_enter Try.func186, Try.ntmps186
      go_wp2_with fail
      go_region_held3 (fun w' => w'.cell? ⟨a, 0, none⟩ = some (.pointer pl) ∧ w'.cell? ⟨a, 1, none⟩ = some (.pointer pr) ∧ w'.cell? ⟨b, 0, none⟩ = some (.pointer ql) ∧ w'.cell? ⟨b, 1, none⟩ = some (.pointer qr) ∧ Ext w w')
        (first | with_reducible exact four_cells h0 h1 g0 g1 (Ext.drew (Ext.refl _)) | with_reducible exact four_cells h0 h1 g0 g1 (x3.alloc _) | with_reducible exact four_cells h0 h1 g0 g1 x3 | with_reducible exact four_cells h0 h1 g0 g1 x1 | fail)
        (first
        | (go_at_call_of 186 (Value.pointer pl); refine (ihl _ _ _ _ (HL.out.1.ext (Ext.refl _).drew) (HL.out.2.ext (Ext.refl _).drew)).mono ?_; rintro e w1 ⟨v1, rfl, r1, hx1⟩; have x1 := (Ext.refl w).drew.trans hx1)
        | (go_at_call_of 186 (Value.pointer pr); refine (ihr _ _ _ _ (HR.out.1.ext x1) (HR.out.2.ext x1)).mono ?_; rintro e w3 ⟨v3, rfl, r3, hx3⟩; have x3 := x1.trans hx3)
        | fail)
      go_wp2_with fail
      go_ret
      exact ⟨_, rfl, Rep.made (r1.ext hx3) r3, x3.alloc _⟩

set_option maxHeartbeats 3200000 in
set_option maxRecDepth 100000 in
theorem addresses_calls (T : Tr) : ∀ (a : List UInt8) (s : ByteArray) (p : Option Addr) (w : World), T.carets < 10000000 → a.length + T.carets < 100000000 → s = S a → Rep w T p →
    Calls Try.prog 178 #[.pointer p, .string s] w (GivesS w (addrs T a)) := by
  induction T with
  | leaf =>
    intro a s p w _ _ hs hr
    obtain rfl := hr
    have OL : Hid (Own (w.alloc (.cells #[.string s] 9)) w.heap.size 9 (.slice (some ⟨w.heap.size, 0, none⟩) 1 1) (sls [a])) := by
      have := Own.lit w w.heap.size 9 #[.string s] (Nat.le_refl _) (by show 1 ≤ maxLen; decide)
      subst hs; exact this
    have XL := Lib.hid ((Ext.refl w).alloc (.cells #[.string s] 9))
    clear hs
    go_enter Try.func178, Try.ntmps178
    go_wp2_with fail
    go_ret
    exact ⟨_, rfl, OL.out, XL.out⟩
  | node l r ihl ihr =>
    intro a s p w hc hl hs hr
    have op := hr.open
    clear hr
    obtain ⟨b, pl, pr, rfl, h0, h1, hl', hr'⟩ := op
    have e0 : Hid (s ++ ⟨#[48]⟩ = S (a ++ [48])) := by subst hs; exact S_append a [48]
    have e1 : Hid (s ++ ⟨#[49]⟩ = S (a ++ [49])) := by subst hs; exact S_append a [49]
    have z : s.size ≤ 100000000 := by subst hs; rw [S_size]; omega
    have z1 : (9223372036854775807 < s.size + 1) = False := eq_false (by omega)
    have H := Lib.hid (And.intro hl' hr')
    have hcc : (Tr.node l r).carets = 1 + l.carets + r.carets := rfl
    have HC : Hid (l.carets < 10000000 ∧ (a ++ [48]).length + l.carets < 100000000 ∧ r.carets < 10000000 ∧ (a ++ [49]).length + r.carets < 100000000) := ⟨by omega, by simp; omega, by omega, by simp; omega⟩
    have L2 : Hid (((sls (addrs l (a ++ [48]))).length + (sls (addrs r (a ++ [49]))).length) * 16 ≤ 140737488355328) := by rw [sls_length, sls_length, addrs_length, addrs_length]; show _ ≤ _; omega
    clear hl' hr' hs hc hl hcc
    go_enter Try.func178, Try.ntmps178
    go_wp2_with fail
    go_region_held3 (fun w' => w'.cell? ⟨b, 0, none⟩ = some (.pointer pl) ∧ w'.cell? ⟨b, 1, none⟩ = some (.pointer pr) ∧ Ext w w')
      (first | with_reducible exact two_cells h0 h1 (Ext.drew (Ext.refl _)) | with_reducible exact two_cells h0 h1 x4 | with_reducible exact two_cells h0 h1 x3 | with_reducible exact two_cells h0 h1 x1 | fail)
      (first
        | (go_at_call_of 178 (Value.pointer pl); refine (ihl _ _ _ _ HC.out.1 HC.out.2.1 e0.out (H.out.1.ext (Ext.refl _).drew)).mono ?_; rintro e w1 ⟨v1, rfl, o1, hx1⟩; have x1 : Ext w w1 := (Ext.refl w).drew.trans hx1)
        | (go_at_call_of 178 (Value.pointer pr); refine (ihr _ _ _ _ HC.out.2.2.1 HC.out.2.2.2 e1.out (H.out.2.ext x1)).mono ?_; rintro e w3 ⟨v3, rfl, o3, hx3⟩; have x3 := x1.trans hx3)
        | (refine step_app (by rfl) (.tmp 15) (.tmp 22) 52 (by rfl) w.heap.size 9 (.string ⟨#[]⟩) 16 Try.underlying52 infoStr rfl (by omega) _ _ (sls (addrs l (a ++ [48]))) (sls (addrs r (a ++ [49]))) (by rfl) (by rfl) (o1.ext hx3) o3.reads (sls_one _) L2.out x3.size ?_; intro v4 w4 o4 g4 _; have x4 := x3.grown g4 (o1.ext hx3).lo) | fail)
    go_wp2_with fail
    go_ret
    refine ⟨_, rfl, ?_, x4⟩
    rw [sls_append] at o4
    exact o4

set_option maxHeartbeats 3200000 in
set_option maxRecDepth 100000 in
theorem at_calls (T V : Tr) (l : List UInt8) (hl : l.length < 1000000) (hat : atT l T = some V) (p : Option Addr) (w : World) (hr : Rep w T p) :
    Calls Try.prog 204 #[.pointer p, .string (S l)] w fun e w' => ∃ q, e = .returned (.tuple #[.pointer q, .bool true]) ∧ Rep w V q ∧ w = w' := by
  have A0 := Lib.hid (And.intro hat hr)
  clear hat hr
  go_enter Try.func204, Try.ntmps204
  go_wp2_with fail
  go_loop [9, 0] (fun i t => ∃ (j : Nat) (U : Tr) (q : Option Addr), j ≤ l.length ∧ i = .int .i64 j ∧ t = .pointer q ∧ Hid (Rep w U q) ∧ Hid (atT (l.drop j) U = some V)) (fun i _ => l.length - (intOf i).toNat)
  case atStart => exact ⟨0, T, p, Nat.zero_le _, rfl, rfl, A0.out.2, A0.out.1⟩
  case round =>
    obtain ⟨j, U, q, hj, rfl, rfl, HR, HA⟩ := hrel
    by_cases hlt : j < l.length
    · obtain ⟨c, hc⟩ : ∃ c, l[j]? = some c := ⟨_, List.getElem?_eq_getElem hlt⟩
      have hD : l.drop j = c :: l.drop (j + 1) := by
        obtain ⟨g1, g2⟩ := List.getElem?_eq_some_iff.1 hc
        rw [List.drop_eq_getElem_cons g1, g2]
      have h1 : (j : Int) < (S l).size := by show (j : Int) < (l.length : Nat); omega
      have h0 : (0 : Int) ≤ j := by omega
      obtain ⟨x1, x2⟩ := s_at (S l) j c (by rw [S_toList]; exact hc)
      have HA2 := HA.out
      rw [hD] at HA2
      cases U with
      | leaf => simp [atT] at HA2
      | node a b =>
        obtain ⟨bb, pl, pr, rfl, c0, c1, rl, rr⟩ := HR.out.open
        simp only [atT] at HA2
        by_cases k1 : c = 48
        · subst k1
          rw [if_pos rfl] at HA2
          have t1 : (((48 : UInt8).toNat : Int) == 48) = true := rfl
          have RL := Lib.hid rl
          have HA3 := Lib.hid HA2
          clear HA2 hc hD rl rr HR HA
          go_wp2_with fail
          exact ⟨⟨j + 1, a, pl, by omega, by go_num, rfl, RL.out, HA3.out⟩, by simp [intOf]; omega⟩
        · rw [if_neg k1] at HA2
          by_cases k2 : c = 49
          · subst k2
            rw [if_pos rfl] at HA2
            have t1 : (((49 : UInt8).toNat : Int) == 48) = false := rfl
            have t2 : (((49 : UInt8).toNat : Int) == 49) = true := rfl
            have RL := Lib.hid rr
            have HA3 := Lib.hid HA2
            clear HA2 hc hD rl rr HR HA k1
            go_wp2_with fail
            exact ⟨⟨j + 1, b, pr, by omega, by go_num, rfl, RL.out, HA3.out⟩, by simp [intOf]; omega⟩
          · rw [if_neg k2] at HA2
            cases HA2
    · have h1 : ((S l).size : Int) ≤ j := by show ((l.length : Nat) : Int) ≤ j; omega
      have HV : Hid (Rep w V q) := by
        have := HA.out
        rw [List.drop_eq_nil_of_le (by omega)] at this
        cases U with
        | leaf => cases this; exact HR.out
        | node a b => cases this; exact HR.out
      go_wp2_with fail
      go_ret2
      exact ⟨q, rfl, HV.out, rfl⟩

theorem three_cells {w w' : World} {a b c : Addr} {x y z : Value} (h0 : w.cell? a = some x) (h1 : w.cell? b = some y) (h2 : w.cell? c = some z) (h : Ext w w') : w'.cell? a = some x ∧ w'.cell? b = some y ∧ w'.cell? c = some z ∧ Ext w w' := ⟨h.cell h0, h.cell h1, h.cell h2, h⟩
set_option maxHeartbeats 3200000 in
set_option maxRecDepth 100000 in
theorem partsClo (T W0 : Tr) (hP : Part T W0) (hd : T.depth < 1000000) (pw : Option Addr) (v : Value) (b c : Nat) (w : World) (hb : w.cell? ⟨b, 0, none⟩ = some (.pointer pw)) (hc : w.cell? ⟨c, 0, none⟩ = some v) (hv : Reads w v (sls (addrs T []))) (hw : Rep w W0 pw) :
    Clo w (T.carets + 1) (fun i => (partsT T W0).getD i .leaf) 203 #[.pointer (some ⟨b, 0, none⟩), .pointer (some ⟨c, 0, none⟩)] := by
  refine ⟨run_of Try.func203 (by kernel_rfl) (by kernel_rfl), fun k hk w' hx => ?_⟩
  have hk1 : k < (addrs T []).length := by rw [addrs_length]; exact hk
  obtain ⟨x, hx1⟩ : ∃ x, (addrs T [])[k]? = some x := ⟨_, List.getElem?_eq_getElem hk1⟩
  have hxl : x.length < 1000000 := by have := addrs_depth T [] x (List.mem_of_getElem? hx1); simp at this; omega
  have hk2 : k < (partsT T W0).length := by rw [parts_length T W0 hP]; exact hk
  have hat : atT x W0 = some ((partsT T W0).getD k .leaf) := by
    rw [at_parts T W0 hP k x hx1, List.getD_eq_getElem?_getD, List.getElem?_eq_getElem hk2]; rfl
  obtain ⟨A, cp, rfl, _, rd⟩ := hv.ext hx
  rw [sls_length] at *
  obtain ⟨ad, rfl, ca⟩ := rd (by omega)
  have c3 := ca k (.string (S x)) (by simp only [sls, List.getElem?_map, hx1, Option.map_some])
  have hb := hx.cell hb
  have hc := hx.cell hc
  have C1 := Lib.hid (fun W (h : Ext w' W) => at_calls W0 _ x hxl hat pw W ((hw.ext hx).ext h))
  have h0 : (0 : Int) ≤ k := by omega
  have h1 : (k : Int) < (addrs T []).length := by omega
  show Calls Try.prog 203 #[.int .i64 k, .pointer (some ⟨b, 0, none⟩), .pointer (some ⟨c, 0, none⟩)] w' (GivesT w' ((partsT T W0).getD k .leaf))
  generalize (partsT T W0).getD k .leaf = V at *
  generalize (addrs T []).length = m at *
  clear hx rd ca hx1 hat hk1 hk2 hk hw hv
  go_enter Try.func203, Try.ntmps203
  go_wp2_with fail
  go_region_held3 (fun w2 => w2.cell? ⟨b, 0, none⟩ = some (.pointer pw) ∧ w2.cell? ⟨c, 0, none⟩ = some (.slice (some ad) m cp) ∧ w2.cell? (ad.add k) = some (.string (S x)) ∧ Ext w' w2)
    (first | with_reducible exact three_cells hb hc c3 (Ext.refl _).drew | exact three_cells hb hc c3 (Ext.refl _).drew | fail)
    (first | (go_at_call 204; refine (C1.out _ (Ext.refl _).drew).mono ?_; rintro e w3 ⟨q, rfl, rq, rfl⟩) | fail)
  go_wp2_with fail
  go_ret
  exact ⟨q, rfl, rq, (Ext.refl _).drew⟩
set_option maxHeartbeats 3200000 in
set_option maxRecDepth 100000 in
theorem parts_calls (T W0 : Tr) (hP : Part T W0) (hT : T.carets < 1000000) (pt pw : Option Addr) (w : World) (ht : Rep w T pt) (hw : Rep w W0 pw) :
    Calls Try.prog 187 #[.pointer pt, .pointer pw] w fun e w' => ∃ b c, e = .returned (.func (.func 203) #[] #[.pointer (some ⟨b, 0, none⟩), .pointer (some ⟨c, 0, none⟩)]) ∧ Clo w' (T.carets + 1) (fun i => (partsT T W0).getD i .leaf) 203 #[.pointer (some ⟨b, 0, none⟩), .pointer (some ⟨c, 0, none⟩)] ∧ Ext w w' := by
  have X1 := Lib.hid ((Ext.refl w).alloc (.cells #[.pointer pw] 91))
  have c0 : (w.alloc (.cells #[.pointer pw] 91)).cell? ⟨w.heap.size, 0, none⟩ = some (.pointer pw) := by go_simp
  have C1 := Lib.hid (fun W (h : Ext w W) => addresses_calls T [] ⟨#[]⟩ pt W (by omega) (by simp; omega) rfl (ht.ext h))
  have HW := Lib.hid hw
  have PC := Lib.hid (partsClo T W0 hP (by have := T.depth_le; omega) pw)
  clear hP ht hw
  go_enter Try.func187, Try.ntmps187
  go_wp2_with fail
  generalize w.alloc (.cells #[.pointer pw] 91) = W at *
  refine (C1.out _ X1.out).mono ?_
  rintro e w1 ⟨v, rfl, o1, x1⟩
  have X2 := Lib.hid ((X1.out.trans x1).alloc (.cells #[v] 52))
  have c1 : (w1.alloc (.cells #[v] 52)).cell? ⟨w1.heap.size, 0, none⟩ = some v := by go_simp
  have c0 := (x1.alloc (.cells #[v] 52)).cell c0
  have O1 := Lib.hid (o1.reads.ext ((Ext.refl w1).alloc (.cells #[v] 52)))
  obtain ⟨A, cp, rfl, _, _⟩ := o1.reads
  rw [sls_length] at *
  clear o1 x1
  go_wp2_with fail
  go_ret
  exact ⟨_, _, rfl, PC.out _ _ _ _ c0 c1 O1.out (HW.out.ext X2.out), X2.out⟩
end Go.Proofs.Ytpmmajfdcicjiaa.N
