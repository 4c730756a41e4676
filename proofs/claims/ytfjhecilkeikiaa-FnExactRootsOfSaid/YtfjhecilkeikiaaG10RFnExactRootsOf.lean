import Derived.Test.YtfjhecilkeikiaaG1RFnExactRootsOf
import Derived.Test.YtfjhecilkeikiaaG3RFnExactRootsOf
import Derived.Test.YtfjhecilkeikiaaG5RFnExactRootsOf
import Derived.Test.YtfjhecilkeikiaaG8RFnExactRootsOf
import Derived.Test.YtfjhecilkeikiaaG9RFnExactRootsOf
import Derived.Test.YtfjhecilkeikiaaG2RFnExactRootsOf
import Derived.Test.YtfjhecilkeikiaaProg
import Derived.Test.YtfjhecilkeikiaaG4RFnExactRootsOf
import Derived.Deep.LoopGhost
import Derived.Deep.RegionHeld3
/- Halves of reduced pairs; joins, parts, products: plain Lean. -/
namespace Go.Proofs.Ytfjhecilkeikiaa.N
set_option linter.unusedVariables false
set_option linter.unusedSimpArgs false

theorem both_nil {A B : Tr} : bothT A B = [] ↔ ∀ k, k ∈ expo A 0 → k ∈ expo B 0 → False := by
  unfold bothT
  rw [List.filter_eq_nil_iff]
  constructor
  · intro h k h1 h2; exact h k h1 (by simpa using h2)
  · intro h k h1 h2; exact h k h1 (by simpa using h2)
theorem red_halves {l r a b : Tr} (h : bothT (.node l r) (.node a b) = []) (hc : l.carets = a.carets) (hcc : r.carets = b.carets) : bothT l a = [] ∧ bothT r b = [] := by
  by_cases h1 : l = .leaf ∧ r = .leaf
  · obtain ⟨rfl, rfl⟩ := h1
    exact ⟨rfl, rfl⟩
  by_cases h2 : a = .leaf ∧ b = .leaf
  · obtain ⟨rfl, rfl⟩ := h2
    exact ⟨both_zero hc, both_zero hcc⟩
  rw [both_nil] at h
  refine ⟨both_nil.2 fun k k1 k2 => h k ?_ ?_, both_nil.2 fun k k1 k2 => h (k + (l.carets + 1)) ?_ ?_⟩
  · rw [expo_node h1]; exact List.mem_append_left _ k1
  · rw [expo_node h2]; exact List.mem_append_left _ k2
  · rw [expo_node h1, expo_shift]; exact List.mem_append_right _ (List.mem_map_of_mem k1)
  · rw [expo_node h2, hc, expo_shift]; exact List.mem_append_right _ (List.mem_map_of_mem k2)

def join : Tr → Tr → Tr
  | .leaf, b => b
  | .node l r, .leaf => .node l r
  | .node l r, .node a b => .node (join l a) (join r b)
def Part : Tr → Tr → Prop
  | .leaf, _ => True
  | .node _ _, .leaf => False
  | .node l r, .node a b => Part l a ∧ Part r b
theorem part_refl : ∀ T : Tr, Part T T
  | .leaf => trivial
  | .node l r => ⟨part_refl l, part_refl r⟩
theorem part_join_l : ∀ a b : Tr, Part a (join a b)
  | .leaf, b => trivial
  | .node l r, .leaf => part_refl (.node l r)
  | .node l r, .node a b => ⟨part_join_l l a, part_join_l r b⟩
theorem part_join_r : ∀ a b : Tr, Part b (join a b)
  | .leaf, b => part_refl b
  | .node l r, .leaf => trivial
  | .node l r, .node a b => ⟨part_join_r l a, part_join_r r b⟩
theorem join_carets : ∀ a b : Tr, (join a b).carets ≤ a.carets + b.carets
  | .leaf, b => by simp only [join, Tr.carets]; omega
  | .node l r, .leaf => by simp only [join, Tr.carets]; omega
  | .node l r, .node a b => by have := join_carets l a; have := join_carets r b; simp only [join, Tr.carets]; omega
def partsT : Tr → Tr → List Tr
  | .leaf, w => [w]
  | .node _ _, .leaf => []
  | .node l r, .node a b => partsT l a ++ partsT r b
theorem parts_length : ∀ t w : Tr, Part t w → (partsT t w).length = t.carets + 1
  | .leaf, w, _ => rfl
  | .node _ _, .leaf, h => h.elim
  | .node l r, .node a b, h => by simp only [partsT, List.length_append, parts_length l a h.1, parts_length r b h.2, Tr.carets]; omega
def sumc (L : List Tr) : Nat := (L.map Tr.carets).sum
theorem sumc_append (a b : List Tr) : sumc (a ++ b) = sumc a + sumc b := by simp [sumc]
theorem sumc_cons (a : Tr) (b : List Tr) : sumc (a :: b) = a.carets + sumc b := by simp [sumc]
theorem parts_sum : ∀ t w : Tr, Part t w → t.carets + sumc (partsT t w) = w.carets
  | .leaf, w, _ => by simp [partsT, sumc, Tr.carets]
  | .node _ _, .leaf, h => h.elim
  | .node l r, .node a b, h => by have := parts_sum l a h.1; have := parts_sum r b h.2; simp only [partsT, sumc_append, Tr.carets]; omega
theorem sumc_mem {L : List Tr} {t : Tr} (h : t ∈ L) : t.carets ≤ sumc L := by
  induction L with
  | nil => cases h
  | cons a L ih =>
    rw [sumc_cons]
    rcases List.mem_cons.1 h with rfl | h
    · omega
    · have := ih h; omega
theorem parts_le {t w p : Tr} (h : Part t w) (hp : p ∈ partsT t w) : p.carets ≤ w.carets := by have := sumc_mem hp; have := parts_sum t w h; omega
/-- A tree with the trees of a list in place of its leaves. -/
def fill (T : Tr) (L : List Tr) : Tr := T.grown (fun i => L.getD i .leaf) 0
theorem grown_sum (L : List Tr) : ∀ (T : Tr) (k : Nat), k + T.carets < L.length → (T.grown (fun i => L.getD i .leaf) k).carets = T.carets + sumc ((L.drop k).take (T.carets + 1))
  | .leaf, k, h => by
    simp only [Tr.carets] at h
    rw [List.drop_eq_getElem_cons (by omega)]
    simp only [Tr.grown, Tr.carets, List.take_succ_cons, List.take_zero, sumc_cons]
    rw [List.getD_eq_getElem?_getD, List.getElem?_eq_getElem (by omega)]
    simp [sumc]
  | .node l r, k, h => by
    simp only [Tr.carets] at h
    have h1 := grown_sum L l k (by omega)
    have h2 := grown_sum L r (k + (l.carets + 1)) (by omega)
    have e : (Tr.node l r).carets + 1 = (l.carets + 1) + (r.carets + 1) := by simp only [Tr.carets]; omega
    rw [e, List.take_add, sumc_append, List.drop_drop]
    simp only [Tr.grown, Tr.carets]
    omega
theorem fill_carets (T : Tr) (L : List Tr) (h : L.length = T.carets + 1) : (fill T L).carets = T.carets + sumc L := by
  unfold fill
  rw [grown_sum L T 0 (by omega), List.drop_zero, List.take_of_length_le (by omega)]
theorem fill_txt (L : List Tr) : ∀ (T : Tr) (k : Nat) (x : List UInt8), k + T.carets < L.length → fillP (T.txt ++ x) ((L.drop k).map tx) = (T.grown (fun i => L.getD i .leaf) k).txt ++ fillP x ((L.drop (k + (T.carets + 1))).map tx)
  | .leaf, k, x, h => by
    simp only [Tr.carets] at h
    rw [List.drop_eq_getElem_cons (show k < L.length by omega), List.map_cons]
    show fillP (46 :: x) _ = _
    rw [fillP_dot]
    simp only [Tr.grown, Tr.carets, Nat.zero_add]
    rw [List.getD_eq_getElem?_getD, List.getElem?_eq_getElem (by omega), show (tx L[k]).toList = L[k].txt from S_toList _]
    rfl
  | .node l r, k, x, h => by
    simp only [Tr.carets] at h
    rw [txt_node_app, fillP_other _ _ _ (by decide), fill_txt L l k _ (by omega), fill_txt L r (k + (l.carets + 1)) _ (by omega), fillP_other _ _ _ (by decide)]
    have e : k + (l.carets + 1) + (r.carets + 1) = k + ((Tr.node l r).carets + 1) := by simp only [Tr.carets]; omega
    rw [e]
    simp [Tr.grown, Tr.txt]
theorem fillP_txt (T : Tr) (L : List Tr) (h : L.length = T.carets + 1) : fillP T.txt (L.map tx) = (fill T L).txt := by
  have := fill_txt L T 0 [] (by omega)
  rw [List.append_nil, List.drop_zero] at this
  rw [this]
  simp [fill, fillP]
/-- The addresses of leaves, and what is at an address. -/
def addrs : Tr → List UInt8 → List (List UInt8)
  | .leaf, a => [a]
  | .node l r, a => addrs l (a ++ [48]) ++ addrs r (a ++ [49])
def atT : List UInt8 → Tr → Option Tr
  | [], t => some t
  | _ :: _, .leaf => none
  | c :: l, .node a b => if c = 48 then atT l a else if c = 49 then atT l b else none
theorem addrs_length : ∀ (T : Tr) (a : List UInt8), (addrs T a).length = T.carets + 1
  | .leaf, _ => rfl
  | .node l r, a => by simp only [addrs, List.length_append, addrs_length l, addrs_length r, Tr.carets]; omega
theorem addrs_pre : ∀ (T : Tr) (p a : List UInt8), addrs T (p ++ a) = (addrs T a).map (p ++ ·)
  | .leaf, p, a => rfl
  | .node l r, p, a => by simp only [addrs, List.map_append, List.append_assoc, addrs_pre l p, addrs_pre r p]
theorem addrs_depth : ∀ (T : Tr) (a x : List UInt8), x ∈ addrs T a → x.length ≤ a.length + T.depth
  | .leaf, a, x, h => by simp [addrs] at h; subst h; simp [Tr.depth]
  | .node l r, a, x, h => by
    simp only [addrs, List.mem_append] at h
    simp only [Tr.depth]
    rcases h with h | h
    · have := addrs_depth l _ x h; simp at this; omega
    · have := addrs_depth r _ x h; simp at this; omega
theorem at_parts : ∀ (t w : Tr), Part t w → ∀ (i : Nat) (a : List UInt8), (addrs t [])[i]? = some a → atT a w = (partsT t w)[i]?
  | .leaf, w, _, i, a, h => by
    cases i with
    | zero => simp [addrs] at h; subst h; rfl
    | succ i => simp [addrs] at h
  | .node _ _, .leaf, h, _, _, _ => h.elim
  | .node l r, .node a b, h, i, x, hx => by
    simp only [addrs, List.nil_append] at hx
    rw [show addrs l [48] = (addrs l []).map ([48] ++ ·) from addrs_pre l [48] [], show addrs r [49] = (addrs r []).map ([49] ++ ·) from addrs_pre r [49] [], List.getElem?_append] at hx
    simp only [List.length_map, addrs_length] at hx
    simp only [partsT]
    rw [List.getElem?_append, parts_length l a h.1]
    split at hx
    · rename_i hi
      rw [if_pos hi]
      rw [List.getElem?_map, Option.map_eq_some_iff] at hx
      obtain ⟨y, hy, rfl⟩ := hx
      have := at_parts l a h.1 i y hy
      simpa [atT] using this
    · rename_i hi
      rw [if_neg hi]
      rw [List.getElem?_map, Option.map_eq_some_iff] at hx
      obtain ⟨y, hy, rfl⟩ := hx
      have := at_parts r b h.2 _ y hy
      simpa [atT] using this
/-- The product before it is reduced. -/
def mul0 (p q : Tr × Tr) : Tr × Tr := (fill p.1 (partsT p.2 (join p.2 q.1)), fill q.2 (partsT q.1 (join p.2 q.1)))
def mul (p q : Tr × Tr) : Tr × Tr := red (mul0 p q)
theorem mul0_carets {p q : Tr × Tr} (hp : p.1.carets = p.2.carets) (hq : q.1.carets = q.2.carets) : (mul0 p q).1.carets = (join p.2 q.1).carets ∧ (mul0 p q).2.carets = (join p.2 q.1).carets := by
  have h1 := part_join_l p.2 q.1
  have h2 := part_join_r p.2 q.1
  have l1 := parts_length _ _ h1
  have l2 := parts_length _ _ h2
  have s1 := parts_sum _ _ h1
  have s2 := parts_sum _ _ h2
  unfold mul0
  simp only
  rw [fill_carets _ _ (by omega), fill_carets _ _ (by omega)]
  omega
theorem mul_carets {p q : Tr × Tr} (hp : p.1.carets = p.2.carets) (hq : q.1.carets = q.2.carets) : (mul p q).1.carets = (mul p q).2.carets ∧ (mul p q).2.carets ≤ p.2.carets + q.1.carets := by
  obtain ⟨h1, h2⟩ := mul0_carets hp hq
  have h3 := red_same (p := mul0 p q) (by rw [h1, h2])
  have h4 := red_le (mul0 p q)
  have h5 := join_carets p.2 q.1
  unfold mul
  exact ⟨h3, by omega⟩
end Go.Proofs.Ytfjhecilkeikiaa.N
/- Trees in place of leaves, as the program has them. -/
namespace Go.Proofs.Ytfjhecilkeikiaa.N
open Go.RowKit
set_option linter.unusedVariables false
set_option linter.unusedSimpArgs false

set_option maxHeartbeats 1600000 in
theorem rightComb_calls (n : Nat) (hn : n < 1000000) (w : World) :
    Calls Try.prog 140 #[.int .i64 n] w (GivesT w (comb n)) := by
  go_enter Try.func140, Try.ntmps140
  go_wp2_with fail
  go_loopw [3, 5] (fun t i wr => ∃ (k : Nat) (p : Option Addr), k ≤ n ∧ i = .int .i64 k ∧ t = .pointer p ∧ Hid (Rep wr (comb k) p) ∧ Hid (Ext w wr)) (fun _ i _ => n - (intOf i).toNat)
  case atStart => exact ⟨0, none, Nat.zero_le _, rfl, rfl, rfl, Ext.refl _⟩
  case round =>
    obtain ⟨k, p, hk, rfl, rfl, HR, HX⟩ := hrel
    by_cases hlt : k < n
    · have h1 : (k : Int) < n := by omega
      have h0 : (0 : Int) ≤ k := by omega
      have R2 := Lib.hid (Rep.made (pl := none) (l := .leaf) rfl HR.out)
      have X2 := Lib.hid (HX.out.alloc (.cells #[.pointer none, .pointer p] 126))
      go_wp2_with fail
      exact ⟨⟨k + 1, _, by omega, by go_num, rfl, R2.out, X2.out⟩, by simp [intOf]; omega⟩
    · have h1 : (n : Int) ≤ k := by omega
      obtain rfl : k = n := by omega
      go_wp2_with fail
      go_ret
      exact ⟨p, rfl, HR.out, HX.out⟩

def Run (F : FuncId) : Prop := ∀ args w, (callFunc F args).run Try.prog w = .ok (.enter F args) w
theorem run_of {f : FuncId} {fn : Func} (hf : Try.prog.funcs[f]? = some fn) (hname : (fn.name == "runtime.NumGoroutine") = false) (hb : fn.body.isNone = false) : Run f := by
  intro args w
  have h1 : fn.name ≠ "runtime.NumGoroutine" := by simpa using hname
  obtain ⟨c, hc⟩ := Option.isSome_iff_exists.1 (by cases h : fn.body <;> simp_all : fn.body.isSome = true)
  simp [callFunc, hf, h1, hc]
/-- A function at hand that gives trees for numbers. -/
structure Clo (w : World) (N : Nat) (h : Nat → Tr) (F : FuncId) (cap : Array Value) : Prop where
  run : Run F
  call : ∀ k, k < N → ∀ w', Ext w w' → Calls Try.prog F (#[.int .i64 k] ++ cap) w' (GivesT w' (h k))
theorem Clo.ext {w w' : World} {N h F cap} (k : Clo w N h F cap) (hx : Ext w w') : Clo w' N h F cap := ⟨k.run, fun i hi w2 h2 => k.call i hi w2 (hx.trans h2)⟩
set_option maxHeartbeats 1600000 in
set_option maxRecDepth 100000 in
theorem grown_calls (h : Nat → Tr) (N : Nat) (F : FuncId) (cap : Array Value) (T : Tr) : ∀ (p : Option Addr) (k : Nat) (w : World), k + T.carets < N → N < 1000000000 → Rep w T p →
    Clo w N h F cap →
    Calls Try.prog 82 #[.pointer p, .int .i64 k, .func (.func F) #[] cap] w (GivesT w (T.grown h k)) := by
  induction T with
  | leaf =>
    rintro v k w hk hN rfl hC
    have HC := Lib.hid hC
    clear hC
    go_enter Try.func82, Try.ntmps82
    go_wp2_with fail
    rw [HC.out.run]
    refine (HC.out.call k (by simp only [Tr.carets] at hk; omega) _ (Ext.refl _)).mono ?_
    rintro e w' ⟨v, rfl, hv, hx⟩
    have HV := Lib.hid (And.intro hv hx)
    clear hv hx
    go_wp2_with fail
    go_ret
    exact ⟨v, rfl, HV.out.1, HV.out.2⟩
  | node l r ihl ihr =>
    rintro p k w hk hN hr hC
    obtain ⟨b, pl, pr, rfl, h0, h1, hl, hr'⟩ := hr.open
    have HC := Lib.hid hC
    have e1 : 0 ≤ (l.carets : Int) ∧ (k : Int) + l.carets + 1 < 1000000000 := by simp only [Tr.carets] at hk; omega
    have W1 : Hid ((k : Int) + (l.carets + 1) = ((k + (l.carets + 1) : Nat) : Int)) := by show _ = _; omega
    have W2 : IntKind.i64.wrap ((k : Int) + (l.carets + 1)) = (k : Int) + (l.carets + 1) := wrap_ok (by omega)
    have HL := Lib.hid hl
    have HR := Lib.hid hr'
    have HK : Hid (k + l.carets < N ∧ k + (l.carets + 1) + r.carets < N ∧ l.carets < 1000000000) := by simp only [Tr.carets] at hk; exact ⟨by omega, by omega, by omega⟩
    clear hC hk hl hr hr'
    go_enter Try.func82, Try.ntmps82
    go_wp2_with fail
    go_region_held3 (fun w' => w'.cell? ⟨b, 0, none⟩ = some (.pointer pl) ∧ w'.cell? ⟨b, 1, none⟩ = some (.pointer pr) ∧ Ext w w')
      (first | exact two_cells h0 h1 (Ext.drew (Ext.refl _)) | exact two_cells h0 h1 (x3.alloc _) | exact two_cells h0 h1 x3 | exact two_cells h0 h1 x2 | exact two_cells h0 h1 x1 | fail)
      (first
      | (go_at_call_of 82 (Value.pointer pl); refine (ihl _ _ _ HK.out.1 hN (HL.out.ext (Ext.refl _).drew) (HC.out.ext (Ext.refl _).drew)).mono ?_; rintro e w1 ⟨v1, rfl, r1, hx1⟩; have x1 := (Ext.refl w).drew.trans hx1)
      | (go_at_call 108; refine (leaves_calls l _ _ HK.out.2.2 (HL.out.ext x1)).mono ?_; rintro e w2 ⟨rfl, n2, rfl⟩; have x2 := x1.drewN n2)
      | (go_at_call_of 82 (Value.pointer pr); rw [W1.out]; refine (ihr _ _ _ HK.out.2.1 hN (HR.out.ext x2) (HC.out.ext x2)).mono ?_; rintro e w3 ⟨v3, rfl, r3, hx3⟩; have x3 := x2.trans hx3)
      | fail)
    go_wp2_with fail
    go_ret
    exact ⟨_, rfl, Rep.made ((r1.ext ((Ext.refl _).drewN n2)).ext hx3) r3, x3.alloc _⟩

set_option maxHeartbeats 1600000 in
theorem graftClo (N n : Nat) (O : Tr) (po : Option Addr) (b c : Nat) (w : World) (hn : n < N) (hN : N < 1000000000) (hb : w.cell? ⟨b, 0, none⟩ = some (.int .i64 n)) (hc : w.cell? ⟨c, 0, none⟩ = some (.pointer po)) (ho : Rep w O po) :
    Clo w N (fun i => if i = n then O else .leaf) 159 #[.pointer (some ⟨b, 0, none⟩), .pointer (some ⟨c, 0, none⟩)] := by
  refine ⟨run_of Try.func159 (by kernel_rfl) (by kernel_rfl), fun k hk w' hx => ?_⟩
  have hb := hx.cell hb
  have hc := hx.cell hc
  have HO := Lib.hid (ho.ext hx)
  clear hx ho
  show Calls Try.prog 159 #[.int .i64 k, .pointer (some ⟨b, 0, none⟩), .pointer (some ⟨c, 0, none⟩)] w' _
  by_cases he : k = n
  · subst he
    rw [if_pos rfl]
    go_enter Try.func159, Try.ntmps159
    go_wp2_with fail
    go_ret
    exact ⟨po, rfl, HO.out, Ext.refl _⟩
  · rw [if_neg he]
    have t : ((k : Int) == (n : Int)) = false := by rw [beq_eq_false_iff_ne]; omega
    go_enter Try.func159, Try.ntmps159
    go_wp2_with fail
    go_ret
    exact ⟨none, rfl, rfl, Ext.refl _⟩
set_option maxHeartbeats 1600000 in
theorem graft_calls (T O : Tr) (n : Nat) (hT : T.carets < 1000000) (hn : n < T.carets + 1) (p po : Option Addr) (w : World) (ht : Rep w T p) (ho : Rep w O po) :
    Calls Try.prog 141 #[.pointer p, .int .i64 n, .pointer po] w (GivesT w (graft T n O)) := by
  have XX := Lib.hid (((Ext.refl w).alloc (.cells #[.int .i64 n] 3)).alloc (.cells #[.pointer po] 46))
  have CL := Lib.hid (graftClo (T.carets + 1) n O po w.heap.size (w.heap.size + 1) ((w.alloc (.cells #[.int .i64 n] 3)).alloc (.cells #[.pointer po] 46)) hn (by omega) (by go_simp) (by go_simp) (ho.ext XX.out))
  have HT := Lib.hid (ht.ext XX.out)
  clear ht ho
  go_enter Try.func141, Try.ntmps141
  go_wp2_with fail
  refine (grown_calls _ (T.carets + 1) _ _ T p 0 _ (by omega) (by omega) HT.out CL.out).mono ?_
  rintro e w' ⟨q, rfl, hq, hx⟩
  have HQ := Lib.hid (And.intro hq (XX.out.trans hx))
  clear hq hx
  go_wp2_with fail
  go_ret
  exact ⟨q, rfl, HQ.out.1, HQ.out.2⟩

set_option maxHeartbeats 1600000 in
set_option maxRecDepth 100000 in
theorem generator_calls (i : Nat) (hi : i < 1000) (w : World) :
    Calls Try.prog 114 #[.int .i64 i] w (GivesP w (gen i).1 (gen i).2) := by
  have X0 := Lib.hid ((Ext.refl w).alloc (.cells #[.pointer none, .pointer none] 48))
  have t0 := Two.new w (.pointer none) (.pointer none) 48 rfl
  have C1 := Lib.hid (fun W => rightComb_calls i (by omega) W)
  have C3 := Lib.hid (fun W => rightComb_calls (i + 2) (by omega) W)
  have C2 := Lib.hid (fun p po W => graft_calls (comb i) (.node (.node .leaf .leaf) .leaf) i (by rw [comb_carets]; omega) (by rw [comb_carets]; omega) p po W)
  have hi' : (i : Int) < 1000 ∧ (0 : Int) ≤ i := by omega
  have W2 : Hid ((i : Int) + 2 = ((i + 2 : Nat) : Int)) := by show _ = _; omega
  go_enter Try.func114, Try.ntmps114
  go_wp2_with fail
  generalize w.alloc (.cells #[.pointer none, .pointer none] 48) = W at *
  refine (C1.out _).mono ?_
  rintro e w1 ⟨p, rfl, r1, x1⟩
  have RN := Lib.hid (Rep.made (l := .leaf) (r := .leaf) (pl := none) (pr := none) (w := w1) rfl rfl)
  have RM := Lib.hid (Rep.made' (l := .node .leaf .leaf) (r := .leaf) (pr := none) (n := w1.heap.size + 1) RN.out rfl (by simp))
  have xx := ((Ext.refl w1).alloc (.cells #[.pointer none, .pointer none] 126)).alloc (.cells #[.pointer (some ⟨w1.heap.size, 0, none⟩), .pointer none] 126)
  have R1 := Lib.hid (r1.ext xx)
  have X1 := Lib.hid ((X0.out.trans x1).trans xx)
  have T1 := Lib.hid (t0.ext (x1.trans xx))
  clear r1 xx x1 t0
  go_wp2_with fail
  refine (C2.out p _ _ R1.out RM.out).mono ?_
  rintro e w2 ⟨q, rfl, r2, x2⟩
  have R2 := Lib.hid r2
  have X2 := Lib.hid (X1.out.trans x2)
  have T2 := Lib.hid (T1.out.ext x2)
  clear r2 x2
  go_wp2_with fail
  rw [W2.out]
  refine (C3.out _).mono ?_
  rintro e w3 ⟨q3, rfl, r3, x3⟩
  have T3 := T2.out.ext x3
  obtain ⟨u, v, k0, k1, f0, f1⟩ := T3.facts
  have R3 := Lib.hid r3
  have R2 := Lib.hid (R2.out.ext x3)
  have X3 := Lib.hid (X2.out.trans x3)
  have T3 := Lib.hid T3
  clear r3 x3
  go_wp2_with fail
  have HH := set2_heap T3.out (.pointer q) (.pointer q3)
  have Q1 := Rep.set2 T3.out (by decide) (.pointer q) (.pointer q3) R2.out
  have Q2 := Rep.set2 T3.out (by decide) (.pointer q) (.pointer q3) R3.out
  have XX := X3.out.set2 (g := w.heap.size) (Nat.le_refl _) (.pointer q) (.pointer q3)
  change bodyPost _ _ _ _ _ (N.set2 _ w.heap.size (.pointer q) (.pointer q3))
  obtain ⟨hc0, hc1⟩ := cells_of HH
  generalize N.set2 _ w.heap.size (.pointer q) (.pointer q3) = W3 at *
  exact bodyPost_ret (v := .agg #[.pointer q, .pointer q3]) (by simp [results, Try.results114, go_sem, hc0, hc1]) rfl ⟨q, q3, rfl, Q1, Q2, XX⟩
end Go.Proofs.Ytfjhecilkeikiaa.N
