import Derived.Test.YtgnepbogadfinaaDoorXf9
import Derived.Test.YtgnepbogadfinaaDoorXf11
/- A part of the proof: lemmas that later parts use. -/
set_option linter.unusedVariables false
set_option linter.unusedSimpArgs false
namespace Go.Proofs.YtgnepbogadfinaaDoor.N
open Go.RowKit
def TwoL (xs : List Int) : Prop := ∀ x ∈ xs, x ≠ 0 ∧ -2 ≤ x ∧ x ≤ 2
instance (xs : List Int) : Decidable (TwoL xs) := by unfold TwoL; infer_instance
def LetL (m : Int) (xs : List Int) : Prop := ∀ x ∈ xs, x ≠ 0 ∧ -m - 1 ≤ x ∧ x ≤ m + 1
instance (m : Int) (xs : List Int) : Decidable (LetL m xs) := by unfold LetL; infer_instance
section
attribute [local go_sem] max2_i max_two_
end
end Go.Proofs.YtgnepbogadfinaaDoor.N
namespace Go.Proofs.YtgnepbogadfinaaDoor.N
open Go.RowKit
theorem same {P : Program} {f : Nat} {args : Array Value} {w : World} {v : Value} (h : Calls P f args w fun e w' => e = .returned v ∧ w = w') : Calls P f args w fun e w' => e = .returned v ∧ w' = w := h.mono fun _ _ h => ⟨h.1, h.2.symm⟩
end Go.Proofs.YtgnepbogadfinaaDoor.N
namespace Go.Proofs.YtgnepbogadfinaaDoor.N
def NZ (ws : List Int) : Prop := ∀ x ∈ ws, x ≠ 0
theorem NZ.of {a b : List Int} (h : NZ a) (k : NZ b) : NZ (a ++ b) := fun x hx => (List.mem_append.1 hx).elim (h x) (k x)
section
variable {α : Type} (less : α → α → Bool)
end
end Go.Proofs.YtgnepbogadfinaaDoor.N
namespace Go.Proofs.YtgnepbogadfinaaDoor.N
def parseT (s : ByteArray) : Option Tr := match rd (s.size + 1) s.toList with
  | some (T, []) => some T
  | _ => none
theorem parseT_tx (T : Tr) : parseT (tx T) = some T := by
  have hd := T.depth_le
  have hl := T.txt_length
  unfold parseT
  rw [show (tx T).toList = T.txt from S_toList _, rd_txt' T _ (by show T.depth < T.txt.length + 1; omega)]
theorem parseT_some {s : ByteArray} {T : Tr} (h : parseT s = some T) : s = tx T := by
  unfold parseT at h
  split at h
  · rename_i T' e
    injection h with h
    subst h
    have := (rd_some e).1
    rw [List.append_nil] at this
    rw [S_of s, this]; rfl
  · cases h
def anyT (m : Nat) (s t : ByteArray) : Option (Tr × Tr) := match parseT s, parseT t with
  | some A, some B => if A.carets = B.carets ∧ B.carets ≤ m then some (A, B) else none
  | _, _ => none
end Go.Proofs.YtgnepbogadfinaaDoor.N
namespace Go.Proofs.YtgnepbogadfinaaDoor.N
open Go.RowKit
set_option maxHeartbeats 3200000 in
set_option maxRecDepth 100000 in
theorem addresses_calls (T : Tr) : ∀ (a : List UInt8) (s : ByteArray) (p : Option Addr) (w : World), T.carets < 10000000 → a.length + T.carets < 100000000 → s = S a → Rep w T p →
    Calls Tryd.prog 67 #[.pointer p, .string s] w (GivesS w (addrs T a)) := by
  induction T with
  | leaf =>
    intro a s p w _ _ hs hr
    obtain rfl := hr
    have OL : Hid (Own (w.alloc (.cells #[.string s] 9)) w.heap.size 9 (.slice (some ⟨w.heap.size, 0, none⟩) 1 1) (sls [a])) := by
      have := Own.lit w w.heap.size 9 #[.string s] (Nat.le_refl _) (by show 1 ≤ maxLen; decide)
      subst hs; exact this
    have XL := Lib.hid ((Ext.refl w).alloc (.cells #[.string s] 9))
    clear hs
    go_enter Tryd.func67, Tryd.ntmps67
    go_wp2_with fail
    go_ret
    exact ⟨_, rfl, OL.out, XL.out⟩
  | node l r ihl ihr =>
    intro a s p w hc hl hs hr
    have op := hr.open
    clear hr
    obtain ⟨b, pl, pr, rfl, h0, h1, hl', hr'⟩ := op
    have e0 : Hid (s ++ ⟨#[48]⟩ = S (a ++ [48])) := by subst hs; exact S_append a [48]
    have e1 : Hid (s ++ ⟨#[49]⟩ = S (a ++ [49])) := by subst hs; exact S_append a [49]
    have z : s.size ≤ 100000000 := by subst hs; rw [S_size]; omega
    have z1 : (9223372036854775807 < s.size + 1) = False := eq_false (by omega)
    have H := Lib.hid (And.intro hl' hr')
    have hcc : (Tr.node l r).carets = 1 + l.carets + r.carets := rfl
    have HC : Hid (l.carets < 10000000 ∧ (a ++ [48]).length + l.carets < 100000000 ∧ r.carets < 10000000 ∧ (a ++ [49]).length + r.carets < 100000000) := ⟨by omega, by simp; omega, by omega, by simp; omega⟩
    have L2 : Hid (((sls (addrs l (a ++ [48]))).length + (sls (addrs r (a ++ [49]))).length) * 16 ≤ 140737488355328) := by rw [sls_length, sls_length, addrs_length, addrs_length]; show _ ≤ _; omega
    clear hl' hr' hs hc hl hcc
    go_enter Tryd.func67, Tryd.ntmps67
    go_wp2_with fail
    go_region_held3 (fun w' => w'.cell? ⟨b, 0, none⟩ = some (.pointer pl) ∧ w'.cell? ⟨b, 1, none⟩ = some (.pointer pr) ∧ Ext w w')
      (first | with_reducible exact two_cells h0 h1 (Ext.drew (Ext.refl _)) | with_reducible exact two_cells h0 h1 x4 | with_reducible exact two_cells h0 h1 x3 | with_reducible exact two_cells h0 h1 x1 | fail)
      (first
        | (go_at_call_of 67 (Value.pointer pl); refine (ihl _ _ _ _ HC.out.1 HC.out.2.1 e0.out (H.out.1.ext (Ext.refl _).drew)).mono ?_; rintro e w1 ⟨v1, rfl, o1, hx1⟩; have x1 : Ext w w1 := (Ext.refl w).drew.trans hx1)
        | (go_at_call_of 67 (Value.pointer pr); refine (ihr _ _ _ _ HC.out.2.2.1 HC.out.2.2.2 e1.out (H.out.2.ext x1)).mono ?_; rintro e w3 ⟨v3, rfl, o3, hx3⟩; have x3 := x1.trans hx3)
        | (refine step_app (by rfl) (.tmp 15) (.tmp 22) 83 (by rfl) w.heap.size 9 (.string ⟨#[]⟩) 16 Tryd.underlying83 infoStr rfl (by omega) _ _ (sls (addrs l (a ++ [48]))) (sls (addrs r (a ++ [49]))) (by rfl) (by rfl) (o1.ext hx3) o3.reads (sls_one _) L2.out x3.size ?_; intro v4 w4 o4 g4 _; have x4 := x3.grown g4 (o1.ext hx3).lo) | fail)
    go_wp2_with fail
    go_ret
    refine ⟨_, rfl, ?_, x4⟩
    rw [sls_append] at o4
    exact o4
end Go.Proofs.YtgnepbogadfinaaDoor.N
namespace Go.Proofs.YtgnepbogadfinaaDoor.N
open Go.RowKit
theorem infoPiece : (Tryd.prog.info? 97).map (fun i => (i.zero, i.size, i.bytes)) = some (some (.agg #[.int .i64 0, .int .i64 0, .int .i64 0, .int .i64 0]), 4, 32) := by kernel_rfl
def pcV (a b : List UInt8) : List Value := [.int .i64 (plI a a.length : Nat), .int .i64 (plI b b.length : Nat), .int .i64 (a.length : Nat), .int .i64 (b.length : Nat)]
def pcsV : List (List UInt8) → List (List UInt8) → List Value
  | a :: l, b :: m => pcV a b ++ pcsV l m
  | _, _ => []
theorem pcsV_take : ∀ (l m : List (List UInt8)) (k : Nat) (a b : List UInt8), l[k]? = some a → m[k]? = some b → pcsV (l.take (k + 1)) (m.take (k + 1)) = pcsV (l.take k) (m.take k) ++ pcV a b
  | x :: l, y :: m, 0, a, b, h1, h2 => by
    simp only [List.getElem?_cons_zero, Option.some.injEq] at h1 h2
    subst h1; subst h2
    simp [pcsV]
  | x :: l, y :: m, k + 1, a, b, h1, h2 => by
    simp only [List.getElem?_cons_succ] at h1 h2
    simp only [List.take_succ_cons, pcsV, pcsV_take l m k a b h1 h2, List.append_assoc]
  | [], _, _, _, _, h1, _ => by simp at h1
  | _ :: _, [], _, _, _, _, h2 => by simp at h2
theorem pcsV_get : ∀ (l m : List (List UInt8)) (k : Nat) (a b : List UInt8), l[k]? = some a → m[k]? = some b → ∀ i u, (pcV a b)[i]? = some u → (pcsV l m)[k * 4 + i]? = some u
  | x :: l, y :: m, 0, a, b, h1, h2, i, u, hu => by
    simp only [List.getElem?_cons_zero, Option.some.injEq] at h1 h2
    subst h1; subst h2
    have hi : i < (pcV x y).length := (List.getElem?_eq_some_iff.1 hu).1
    rw [pcsV, Nat.zero_mul, Nat.zero_add, List.getElem?_append_left hi]; exact hu
  | x :: l, y :: m, k + 1, a, b, h1, h2, i, u, hu => by
    simp only [List.getElem?_cons_succ] at h1 h2
    have := pcsV_get l m k a b h1 h2 i u hu
    rw [pcsV, List.getElem?_append_right (by simp [pcV]; omega)]
    rw [← this]; congr 1; simp [pcV]; omega
  | [], _, _, _, _, h1, _, _, _, _ => by simp at h1
  | _ :: _, [], _, _, _, _, h2, _, _, _ => by simp at h2
set_option maxHeartbeats 6400000 in
set_option maxRecDepth 100000 in
theorem pieces_calls (A B : Tr) (hc : A.carets = B.carets) (hB : B.carets ≤ 30) (pa pb : Option Addr) (w : World) (ra : Rep w A pa) (rb : Rep w B pb) :
    Calls Tryd.prog 63 #[.agg #[.pointer pa, .pointer pb]] w fun e w' => ∃ v, e = .returned v ∧ w'.ownsRow w.heap.size 97 4 v (A.carets + 1) (pcsV (addrs A []) (addrs B [])) ∧ Ext w w' := by
  have X0 := Lib.hid ((Ext.refl w).alloc (.cells #[.pointer pa, .pointer pb] 66))
  have B0 := Lib.hid (heap_alloc_new w (.cells #[.pointer pa, .pointer pb] 66))
  have C1 := Lib.hid (fun W (h : Ext w W) => addresses_calls A [] ⟨#[]⟩ pa W (by omega) (by simp; omega) rfl (ra.ext h))
  have C2 := Lib.hid (fun W (h : Ext w W) => addresses_calls B [] ⟨#[]⟩ pb W (by omega) (by simp; omega) rfl (rb.ext h))
  have LA := addrs_length A []
  have LB := addrs_length B []
  rw [← LA]
  have DA : Hid (∀ x ∈ addrs A [], x.length ≤ 40) := fun x hx => by have := addrs_depth A [] x hx; have := A.depth_le; simp at *; omega
  have DB : Hid (∀ x ∈ addrs B [], x.length ≤ 40) := fun x hx => by have := addrs_depth B [] x hx; have := B.depth_le; simp at *; omega
  have LL : Hid ((addrs A []).length = (addrs B []).length) := by show _ = _; omega
  have L31 : (addrs A []).length ≤ 31 := by omega
  generalize addrs A [] = la at *
  generalize addrs B [] = lb at *
  clear hc hB ra rb LA LB
  obtain ⟨c0, c1⟩ := cells_of B0.out
  go_enter Tryd.func63, Tryd.ntmps63
  go_wp2_with fail
  generalize w.alloc (.cells #[.pointer pa, .pointer pb] 66) = W at *
  refine (C2.out _ X0.out).mono ?_
  rintro e w1 ⟨v1, rfl, o1, x1⟩
  obtain ⟨A1, q1, rfl, _, _⟩ := o1.reads
  rw [sls_length] at o1 ⊢
  have X1 := Lib.hid (X0.out.trans x1)
  have R1 := Lib.hid o1.reads
  obtain ⟨c0, c1⟩ := cells_of (x1.at B0.out)
  clear o1 x1
  go_wp2_with fail
  refine (C1.out _ X1.out).mono ?_
  rintro e w2 ⟨v2, rfl, o2, x2⟩
  obtain ⟨A2, q2, rfl, _, _⟩ := o2.reads
  rw [sls_length] at o2 ⊢
  have X2 := Lib.hid (X1.out.trans x2)
  have R1 := Lib.hid (R1.out.ext x2)
  have R2 := Lib.hid o2.reads
  clear o2 x2 c0 c1
  go_wp2_with fail
  go_loopw [14, 3] (fun i o wr => ∃ k : Nat, k ≤ la.length ∧ i = .int .i64 k ∧ Hid (wr.ownsRow w2.heap.size 97 4 o k (pcsV (la.take k) (lb.take k))) ∧ Hid (Ext w2 wr)) (fun i _ _ => la.length - (intOf i).toNat)
  case atStart => exact ⟨0, Nat.zero_le _, rfl, World.ownsRow_nil _ _ _ _, Ext.refl _⟩
  case round =>
    obtain ⟨k, hk, rfl, HO, HX⟩ := hrel
    by_cases hlt : k < la.length
    · have hlt2 : k < lb.length := by rw [← LL.out]; exact hlt
      obtain ⟨Ax, cx, e1, _, rd⟩ := R2.out.ext HX.out
      rw [sls_length] at rd e1
      obtain ⟨ad, e2, ca⟩ := rd (by omega)
      injection e1 with e3 e4 e5
      subst e3 e5
      subst e2
      clear e4
      have c1 := ca k _ (sls_get la k hlt)
      obtain ⟨Ay, cy, e1, _, rd⟩ := R1.out
      rw [sls_length] at rd e1
      obtain ⟨ad2, e2, cb⟩ := rd (by omega)
      injection e1 with e3 e4 e5
      subst e3 e5
      subst e2
      clear e4
      have d0 := cb k _ (sls_get lb k hlt2)
      have d1 := HX.out.cell d0
      have h0 : (0 : Int) ≤ k := by omega
      have h1 : (k : Int) < la.length := by omega
      have h2 : (k : Int) < lb.length := by omega
      have PT := Lib.hid (pcsV_take la lb k la[k] lb[k] (List.getElem?_eq_getElem hlt) (List.getElem?_eq_getElem hlt2))
      have LA := DA.out _ (List.getElem_mem hlt)
      have LB := DB.out _ (List.getElem_mem hlt2)
      have PA := Lib.hid (fun W => placeOf_calls la[k] LA W)
      have PB := Lib.hid (fun W => placeOf_calls lb[k] LB W)
      unfold pcV at PT
      have SA : Hid ((S la[k]).size = la[k].length) := rfl
      have SB : Hid ((S lb[k]).size = lb[k].length) := rfl
      clear ca cb rd
      generalize la[k] = xa at *
      generalize lb[k] = xb at *
      generalize plI xa xa.length = na at *
      generalize plI xb xb.length = nb at *
      have LO := Lib.hid (fun j hj => (HO.out.lt j hj).1)
      go_wp2_with fail
      have XL := Lib.hid ((HX.out.alloc (.cells #[.int .i64 (na : Nat), .int .i64 (nb : Nat), .int .i64 (xa.length : Nat), .int .i64 (xb.length : Nat)] 97)).drew)
      have XR := Lib.hid (((Ext.refl wr).alloc (.cells #[.int .i64 (na : Nat), .int .i64 (nb : Nat), .int .i64 (xa.length : Nat), .int .i64 (xb.length : Nat)] 97)).drew)
      rw [← SA.out, ← SB.out] at XL PT XR
      go_region_held3 (fun w' => w'.cell? (ad2.add k) = some (.string (S xb)) ∧ Ext w2 w')
        (first | with_reducible exact ⟨HX.out.drew.cell d0, HX.out.drew⟩ | with_reducible exact ⟨XL.out.cell d0, XL.out⟩ | with_reducible exact ⟨x4.cell d0, x4⟩ | fail)
        (first
          | (go_at_call_of 54 (Value.string (S xa)); refine (PA.out _).mono ?_; rintro e w1 ⟨rfl, rfl⟩)
          | (go_at_call_of 54 (Value.string (S xb)); refine (PB.out _).mono ?_; rintro e w1 ⟨rfl, rfl⟩)
          | (refine step_appK (by rfl) (.tmp 19) (.tmp 35) 94 (by rfl) w2.heap.size 97 _ 4 32 Tryd.underlying94 infoPiece rfl (by omega) _ k 1 1 _ _ [.int .i64 (na : Nat), .int .i64 (nb : Nat), .int .i64 ((S xa).size : Nat), .int .i64 ((S xb).size : Nat)] (by rfl) (by rfl) (row_ext HO.out XR.out) rfl (new_cells wr #[.int .i64 (na : Nat), .int .i64 (nb : Nat), .int .i64 ((S xa).size : Nat), .int .i64 ((S xb).size : Nat)] _) (by simp [Value.oneCell']) (by unfold maxLen; omega) (by omega) XL.out.size ?_; intro v4 w4 o4 g4 _; have x4 := XL.out.grown g4 LO.out; rw [← PT.out] at o4)
          | fail)
      have O4 := Lib.hid o4
      have X4 := Lib.hid x4
      clear o4 g4 x4
      go_wp2_with fail
      exact ⟨⟨k + 1, by omega, by go_num, O4.out, X4.out⟩, by simp [intOf]; omega⟩
    · have h1 : (la.length : Int) ≤ k := by omega
      obtain rfl : k = la.length := by omega
      have HO2 := HO.out
      rw [List.take_length, show lb.take la.length = lb by rw [LL.out, List.take_length]] at HO2
      have HO2 := Lib.hid HO2
      go_wp2_with fail
      go_ret
      exact ⟨_, rfl, row_mono HO2.out X2.out.size, X2.out.trans HX.out⟩
theorem facts4 {w : World} {g : Nat} {x y z u : Value} {t : TypeId} (h : w.heap[g]? = some (.cells #[x, y, z, u] t)) : (w.cell? ⟨g, 0, none⟩ = some x ∧ w.cell? ⟨g, 1, none⟩ = some y ∧ w.cell? ⟨g, 2, none⟩ = some z ∧ w.cell? ⟨g, 3, none⟩ = some u) ∧ w.frozen? ⟨g, 0, none⟩ = false ∧ w.frozen? ⟨g, 1, none⟩ = false ∧ w.frozen? ⟨g, 2, none⟩ = false ∧ w.frozen? ⟨g, 3, none⟩ = false := by
  simp [World.cell?, World.frozen?, h]
def pcAt (ls : List (List UInt8)) (p : Nat) : Nat := (ls.findIdx? fun a => decide (p < plI a a.length + part a.length)).getD (ls.length - 1)
end Go.Proofs.YtgnepbogadfinaaDoor.N
namespace Go.Proofs.YtgnepbogadfinaaDoor.N
def plA (a : List UInt8) : Nat := plI a a.length
theorem plI_append (a b : List UInt8) : ∀ i, i ≤ a.length → plI (a ++ b) i = plI a i
  | 0, _ => rfl
  | i + 1, h => by
    simp only [plI, plI_append a b i (by omega)]
    rw [List.getElem?_append_left (by omega)]
theorem plA_zero (a : List UInt8) : plA (a ++ [48]) = plA a := by
  unfold plA
  rw [List.length_append, List.length_singleton]
  simp only [plI]
  rw [plI_append _ _ _ (Nat.le_refl _), List.getElem?_append_right (Nat.le_refl _)]
  simp
theorem plA_one (a : List UInt8) : plA (a ++ [49]) = plA a + part (a.length + 1) := by
  unfold plA
  rw [List.length_append, List.length_singleton]
  simp only [plI]
  rw [plI_append _ _ _ (Nat.le_refl _), List.getElem?_append_right (Nat.le_refl _)]
  simp
def Chn (s e : Nat) : List (List UInt8) → Prop
  | [] => s = e
  | a :: l => plA a = s ∧ Chn (s + part a.length) e l
theorem Chn.append : ∀ {l1 l2 : List (List UInt8)} {s m e : Nat}, Chn s m l1 → Chn m e l2 → Chn s e (l1 ++ l2)
  | [], _, _, _, _, h1, h2 => by cases h1; exact h2
  | a :: l, _, _, _, _, h1, h2 => ⟨h1.1, h1.2.append h2⟩
theorem addrs_chn : ∀ (T : Tr) (a : List UInt8), a.length + T.depth ≤ 40 → Chn (plA a) (plA a + part a.length) (addrs T a)
  | .leaf, a, _ => ⟨rfl, rfl⟩
  | .node l r, a, h => by
    simp only [Tr.depth] at h
    have h1 := addrs_chn l (a ++ [48]) (by simp; omega)
    have h2 := addrs_chn r (a ++ [49]) (by simp; omega)
    rw [plA_zero] at h1
    rw [plA_one] at h2
    have e := part_step (k := a.length) (by omega)
    simp only [List.length_append, List.length_singleton] at h1 h2
    simp only [addrs]
    rw [e, show plA a + part (a.length + 1) * 2 = plA a + part (a.length + 1) + part (a.length + 1) by omega]
    exact h1.append h2
def fi (p : Nat) : List (List UInt8) → Nat
  | [] => 0
  | a :: l => if p < plA a + part a.length then 0 else if l = [] then 0 else 1 + fi p l
theorem pcAt_fi (p : Nat) : ∀ l, pcAt l p = fi p l
  | [] => rfl
  | a :: l => by
    have ih := pcAt_fi p l
    unfold pcAt at ih ⊢
    simp only [fi]
    rw [List.findIdx?_cons]
    by_cases h : p < plA a + part a.length
    · rw [if_pos h, if_pos (by simpa [plA] using h)]; rfl
    · rw [if_neg h, if_neg (by simpa [plA] using h)]
      cases l with
      | nil => simp
      | cons b l =>
        rw [if_neg (by simp), ← ih]
        cases List.findIdx? (fun a => decide (p < plI a a.length + part a.length)) (b :: l) with
        | none => simp; omega
        | some x => simp; omega
theorem fi_in (p : Nat) : ∀ (l : List (List UInt8)) (s e : Nat), Chn s e l → l ≠ [] → s ≤ p → p ≤ e → ∃ a, l[fi p l]? = some a ∧ plA a ≤ p ∧ p ≤ plA a + part a.length
  | [], _, _, _, h, _, _ => absurd rfl h
  | a :: l, s, e, hc, _, hs, he => by
    simp only [fi]
    by_cases h : p < plA a + part a.length
    · rw [if_pos h]; exact ⟨a, rfl, by rw [hc.1]; exact hs, by omega⟩
    · rw [if_neg h]
      by_cases hl : l = []
      · rw [if_pos hl]
        subst hl
        have : s + part a.length = e := hc.2
        exact ⟨a, rfl, by rw [hc.1]; exact hs, by rw [hc.1]; omega⟩
      · rw [if_neg hl]
        obtain ⟨b, h1, h2, h3⟩ := fi_in p l _ e hc.2 hl (by rw [hc.1] at h; omega) he
        exact ⟨b, by rw [Nat.add_comm, List.getElem?_cons_succ]; exact h1, h2, h3⟩
def si (p : Nat) : List (List UInt8) → Nat → Nat → Nat
  | [], _, c => c
  | a :: l, k, c => si p l (k + 1) (if plA a ≤ p then k else c)
theorem si_far (p : Nat) : ∀ (l : List (List UInt8)) (s e k c : Nat), Chn s e l → p < s → si p l k c = c
  | [], _, _, _, _, _, _ => rfl
  | a :: l, s, e, k, c, hc, h => by
    simp only [si]
    rw [hc.1, if_neg (by omega)]
    exact si_far p l _ e _ _ hc.2 (by omega)
theorem si_fi (p : Nat) : ∀ (l : List (List UInt8)) (s e k c : Nat), Chn s e l → l ≠ [] → s ≤ p → p ≤ e → si p l k c = k + fi p l
  | [], _, _, _, _, _, h, _, _ => absurd rfl h
  | a :: l, s, e, k, c, hc, _, hs, he => by
    simp only [si, fi]
    rw [hc.1, if_pos hs]
    by_cases h : p < s + part a.length
    · rw [if_pos h]; exact si_far p l _ e _ _ hc.2 h
    · rw [if_neg h]
      by_cases hl : l = []
      · subst hl; simp [si]
      · rw [if_neg hl, si_fi p l _ e _ _ hc.2 hl (by omega) he]; omega
def frF (V : Nat) : Option (Nat × Nat) := if (halve 40 V 1099511627776).2 ≤ 1024 then some (halve 40 V 1099511627776) else none
theorem goodB_true {n d : Int} (h : goodB n d = true) : ∃ m k : Nat, n = m ∧ d = ((2 ^ k : Nat) : Int) ∧ k ≤ 10 ∧ m ≤ 2 ^ k ∧ (k = 0 ∨ m % 2 = 1) := by
  unfold goodB at h
  simp only [Bool.and_eq_true, decide_eq_true_eq, Bool.or_eq_true, beq_iff_eq] at h
  obtain ⟨⟨⟨⟨h1, h2⟩, h3⟩, h4, h5⟩, h6⟩ := h
  obtain ⟨k, hk, hd⟩ := (isP2_iff _).1 h3
  refine ⟨n.toNat, k, by omega, by omega, hk, by omega, ?_⟩
  rcases h6 with h6 | h6
  · left
    rw [h6] at hd
    rcases Nat.eq_zero_or_pos k with h0 | h0
    · exact h0
    · have := Nat.pow_le_pow_right (show 0 < 2 by omega) h0
      simp at hd; omega
  · right; omega
end Go.Proofs.YtgnepbogadfinaaDoor.N
