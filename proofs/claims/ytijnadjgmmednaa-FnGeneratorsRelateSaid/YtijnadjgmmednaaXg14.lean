import Derived.Test.YtijnadjgmmednaaXg9
import Derived.Test.YtijnadjgmmednaaXg10
/- A part of the proof: lemmas that later parts use. -/
set_option linter.unusedVariables false
set_option linter.unusedSimpArgs false
namespace Go.Proofs.Ytijnadjgmmednaa.N
open Go.RowKit
def ptl (p : Tr × Tr) : List UInt8 := p.1.txt ++ 62 :: p.2.txt
def ptx (p : Tr × Tr) : ByteArray := S (ptl p)
theorem ptx_eq (p : Tr × Tr) : (tx p.1 ++ (⟨#[62]⟩ : ByteArray)) ++ tx p.2 = ptx p := by
  show (S _ ++ S [62]) ++ S _ = S _
  simp only [S_append, ptl]
  simp
theorem ptx_inj {p q : Tr × Tr} (h : ptx p = ptx q) : p = q := by
  have h1 := S_inj h
  unfold ptl at h1
  obtain ⟨h2, h3⟩ := txt_inj h1
  injection h3 with _ h4
  have h5 := txt_inj (r := []) (s := []) (by simpa using h4)
  exact Prod.ext h2 h5.1
set_option maxHeartbeats 3200000 in
set_option maxRecDepth 100000 in
theorem ptext_calls (A B : Tr) (hA : A.carets < 1000000) (hB : B.carets < 1000000) (pa pb : Option Addr) (w : World) (ra : Rep w A pa) (rb : Rep w B pb) :
    Calls Try.prog 174 #[.agg #[.pointer pa, .pointer pb]] w fun e w' => e = .returned (.string (ptx (A, B))) ∧ Ext w w' := by
  have X1 := Lib.hid ((Ext.refl w).alloc (.cells #[.pointer pa, .pointer pb] 82))
  have C1 := fun W (hx : Ext w W) => text_calls A pa W (by omega) (ra.ext hx)
  have C2 := fun W (hx : Ext w W) => text_calls B pb W (by omega) (rb.ext hx)
  obtain ⟨c0, c1⟩ := cells_of (heap_alloc_new w (.cells #[.pointer pa, .pointer pb] 82))
  have E : Hid ((tx A ++ (⟨#[62]⟩ : ByteArray)) ++ tx B = ptx (A, B)) := ptx_eq (A, B)
  have zl : (tx A).size ≤ 3000001 := by show A.txt.length ≤ _; rw [Tr.txt_length]; omega
  have zr : (tx B).size ≤ 3000001 := by show B.txt.length ≤ _; rw [Tr.txt_length]; omega
  clear ra rb hA hB
  generalize ptx (A, B) = z at *
  go_enter Try.func174, Try.ntmps174
  go_wp2_with fail
  generalize w.alloc (.cells #[.pointer pa, .pointer pb] 82) = W at *
  go_quiet (first
    | (go_at_call_of 105 (Value.pointer pa); refine Calls.quiet_of (C1 _ ?_); exact X1.out.drewN _)
    | (go_at_call_of 105 (Value.pointer pb); refine Calls.quiet_of (C2 _ ?_); exact X1.out.drewN _))
  go_wp2_with fail
  go_ret
  exact ⟨by rw [E.out]; rfl, X1.out.drewN _⟩
end Go.Proofs.Ytijnadjgmmednaa.N
namespace Go.Proofs.Ytijnadjgmmednaa.N
open Go.RowKit
abbrev TP : Type := Tr × Tr
def redR (a : Tr) (B : List Tr) : List TP := (B.filter fun b => (bothT a b).isEmpty).map fun b => (a, b)
def redA (A B : List Tr) : List TP := A.flatMap fun a => redR a B
theorem redR_take (a : Tr) (B : List Tr) (j : Nat) (b : Tr) (h : B[j]? = some b) : redR a (B.take (j + 1)) = redR a (B.take j) ++ (if (bothT a b).isEmpty then [(a, b)] else []) := by
  unfold redR
  rw [List.take_add_one, h, List.filter_append, List.map_append]
  cases hb : (bothT a b).isEmpty <;> simp [hb]
theorem redA_take (A B : List Tr) (i : Nat) (a : Tr) (h : A[i]? = some a) : redA (A.take (i + 1)) B = redA (A.take i) B ++ redR a B := by
  rw [List.take_add_one, h]; simp [redA, List.flatMap_append]
theorem redR_length (a : Tr) (B : List Tr) : (redR a B).length ≤ B.length := by
  unfold redR
  rw [List.length_map]
  exact List.length_filter_le _ _
theorem redA_length (A B : List Tr) : (redA A B).length ≤ A.length * B.length := by
  unfold redA
  induction A with
  | nil => simp
  | cons a A ih =>
    rw [List.flatMap_cons, List.length_append, List.length_cons, Nat.add_mul]
    have := redR_length a B
    omega
theorem redA_mem {A B : List Tr} {p : TP} (h : p ∈ redA A B) : p.1 ∈ A ∧ p.2 ∈ B ∧ bothT p.1 p.2 = [] := by
  unfold redA redR at h
  obtain ⟨a, ha, h⟩ := List.mem_flatMap.1 h
  obtain ⟨b, hb, rfl⟩ := List.mem_map.1 h
  obtain ⟨h1, h2⟩ := List.mem_filter.1 hb
  exact ⟨ha, h1, by simpa using h2⟩
def insP (x : TP) : List TP → List TP
  | [] => [x]
  | y :: l => if blt (ptx y) (ptx x) then y :: insP x l else x :: y :: l
def srtP (l : List TP) : List TP := l.foldl (fun acc x => insP x acc) []
theorem insP_tx (x : TP) : ∀ l, (insP x l).map ptx = ins (ptx x) (l.map ptx)
  | [] => rfl
  | y :: l => by simp only [insP, ins, List.map_cons]; split <;> simp [insP_tx x l]
theorem insP_perm (x : TP) : ∀ l, (insP x l).Perm (x :: l)
  | [] => List.Perm.refl _
  | y :: l => by
    simp only [insP]
    split
    · exact (List.Perm.cons y (insP_perm x l)).trans (List.Perm.swap x y l)
    · exact List.Perm.refl _
theorem foldl_insP_tx : ∀ (l acc : List TP), (l.foldl (fun acc x => insP x acc) acc).map ptx = (l.map ptx).foldl (fun acc x => ins x acc) (acc.map ptx)
  | [], acc => rfl
  | x :: l, acc => by simp only [List.foldl_cons, List.map_cons]; rw [foldl_insP_tx l, insP_tx]
theorem srtP_tx (l : List TP) : (srtP l).map ptx = srt (l.map ptx) := foldl_insP_tx l []
theorem foldl_insP_perm : ∀ (l acc : List TP), (l.foldl (fun acc x => insP x acc) acc).Perm (acc ++ l)
  | [], acc => by simp
  | x :: l, acc => by
    refine (foldl_insP_perm l (insP x acc)).trans ?_
    refine ((insP_perm x acc).append_right l).trans ?_
    exact (List.perm_middle (a := x) (l₁ := acc) (l₂ := l)).symm
theorem srtP_perm (l : List TP) : (srtP l).Perm l := foldl_insP_perm l []
theorem map_inj {α β : Type} {f : α → β} (hf : ∀ a b, f a = f b → a = b) : ∀ {l m : List α}, l.map f = m.map f → l = m
  | [], [], _ => rfl
  | [], _ :: _, h => by simp at h
  | _ :: _, [], h => by simp at h
  | a :: l, b :: m, h => by
    simp only [List.map_cons, List.cons.injEq] at h
    rw [hf a b h.1, map_inj hf h.2]
theorem srtP_of {l d : List TP} (hp : d.Perm l) (hs : Srt (d.map ptx)) : d = srtP l := by
  refine map_inj (f := ptx) (fun a b h => ptx_inj h) ?_
  rw [srtP_tx]
  exact srt_unique _ _ ((hp.map ptx).trans (srt_perm _).symm) hs (srt_srt _)
def prs (n : Nat) : List TP := srtP (redA (TL n) (TL n))
theorem prs_length (n : Nat) : (prs n).length = (redA (TL n) (TL n)).length := (srtP_perm _).length_eq
def psT (l : List (ByteArray × ByteArray)) : List Value := l.flatMap fun x => [.string x.1, .string x.2]
def psP (l : List TP) : List Value := psT (l.map fun p => (tx p.1, tx p.2))
theorem psT_length : ∀ l : List (ByteArray × ByteArray), (psT l).length = l.length * 2
  | [] => rfl
  | x :: l => by
    have := psT_length l
    unfold psT at *
    rw [List.flatMap_cons, List.length_append, this, List.length_cons]; simp; omega
theorem psT_append (l m : List (ByteArray × ByteArray)) : psT (l ++ m) = psT l ++ psT m := by simp [psT]
theorem psT_get : ∀ (l : List (ByteArray × ByteArray)) (k : Nat) (x : ByteArray × ByteArray), l[k]? = some x → (psT l)[k * 2]? = some (.string x.1) ∧ (psT l)[k * 2 + 1]? = some (.string x.2)
  | [], _, _, h => by simp at h
  | y :: l, 0, x, h => by
    simp only [List.getElem?_cons_zero, Option.some.injEq] at h
    subst h
    exact ⟨rfl, rfl⟩
  | y :: l, k + 1, x, h => by
    have ih := psT_get l k x (by simpa using h)
    have e : psT (y :: l) = [.string y.1, .string y.2] ++ psT l := rfl
    rw [e, show (k + 1) * 2 = k * 2 + 2 by omega]
    refine ⟨?_, ?_⟩
    · rw [List.getElem?_append_right (by simp)]; simpa using ih.1
    · rw [List.getElem?_append_right (by simp)]; simpa using ih.2
theorem psP_length (l : List TP) : (psP l).length = l.length * 2 := by rw [psP, psT_length, List.length_map]
theorem psP_append (l m : List TP) : psP (l ++ m) = psP l ++ psP m := by simp [psP, psT_append]
theorem psP_get (l : List TP) (k : Nat) (p : TP) (h : l[k]? = some p) : (psP l)[k * 2]? = some (.string (tx p.1)) ∧ (psP l)[k * 2 + 1]? = some (.string (tx p.2)) := psT_get _ k (tx p.1, tx p.2) (by simp [h])
end Go.Proofs.Ytijnadjgmmednaa.N
