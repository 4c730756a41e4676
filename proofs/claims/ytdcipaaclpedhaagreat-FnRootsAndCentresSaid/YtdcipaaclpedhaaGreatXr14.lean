import Derived.Test.YtdcipaaclpedhaaGreatXr10
import Derived.Test.YtdcipaaclpedhaaGreatXr11
/- A part of the proof: lemmas that later parts use. -/
set_option linter.unusedVariables false
set_option linter.unusedSimpArgs false
namespace Go.Proofs.YtdcipaaclpedhaaGreat.N
open Go.RowKit
def ptl (p : Tr × Tr) : List UInt8 := p.1.txt ++ 62 :: p.2.txt
def ptx (p : Tr × Tr) : ByteArray := S (ptl p)
theorem ptx_eq (p : Tr × Tr) : (tx p.1 ++ (⟨#[62]⟩ : ByteArray)) ++ tx p.2 = ptx p := by
  show (S _ ++ S [62]) ++ S _ = S _
  simp only [S_append, ptl]
  simp
theorem ptx_inj {p q : Tr × Tr} (h : ptx p = ptx q) : p = q := by
  have h1 := S_inj h
  unfold ptl at h1
  obtain ⟨h2, h3⟩ := txt_inj h1
  injection h3 with _ h4
  have h5 := txt_inj (r := []) (s := []) (by simpa using h4)
  exact Prod.ext h2 h5.1
theorem ptx_size (p : Tr × Tr) : (ptx p).size = 3 * p.1.carets + 3 * p.2.carets + 3 := by
  show (ptl p).length = _
  simp [ptl, Tr.txt_length]; omega
set_option maxHeartbeats 3200000 in
set_option maxRecDepth 100000 in
theorem ptext_calls (A B : Tr) (hA : A.carets < 1000000) (hB : B.carets < 1000000) (pa pb : Option Addr) (w : World) (ra : Rep w A pa) (rb : Rep w B pb) :
    Calls Tryz.prog 32 #[.agg #[.pointer pa, .pointer pb]] w fun e w' => e = .returned (.string (ptx (A, B))) ∧ Ext w w' := by
  have X1 := Lib.hid ((Ext.refl w).alloc (.cells #[.pointer pa, .pointer pb] 57))
  have C1 := fun W (hx : Ext w W) => text_calls A pa W (by omega) (ra.ext hx)
  have C2 := fun W (hx : Ext w W) => text_calls B pb W (by omega) (rb.ext hx)
  obtain ⟨c0, c1⟩ := cells_of (heap_alloc_new w (.cells #[.pointer pa, .pointer pb] 57))
  have E : Hid ((tx A ++ (⟨#[62]⟩ : ByteArray)) ++ tx B = ptx (A, B)) := ptx_eq (A, B)
  have zl : (tx A).size ≤ 3000001 := by show A.txt.length ≤ _; rw [Tr.txt_length]; omega
  have zr : (tx B).size ≤ 3000001 := by show B.txt.length ≤ _; rw [Tr.txt_length]; omega
  clear ra rb hA hB
  generalize ptx (A, B) = z at *
  go_enter Tryz.func32, Tryz.ntmps32
  go_wp2_with fail
  generalize w.alloc (.cells #[.pointer pa, .pointer pb] 57) = W at *
  go_quiet (first
    | (go_at_call_of 60 (Value.pointer pa); refine Calls.quiet_of (C1 _ ?_); exact X1.out.drewN _)
    | (go_at_call_of 60 (Value.pointer pb); refine Calls.quiet_of (C2 _ ?_); exact X1.out.drewN _))
  go_wp2_with fail
  go_ret
  exact ⟨by rw [E.out]; rfl, X1.out.drewN _⟩
set_option maxHeartbeats 1600000 in
theorem prText_calls (A B : Tr) (hA : A.carets < 1000000) (hB : B.carets < 1000000) (w : World) :
    Calls Tryz.prog 36 #[.agg #[.string (tx A), .string (tx B)]] w fun e w' => e = .returned (.string (ptx (A, B))) ∧ Ext w w' := by
  have X1 := Lib.hid ((Ext.refl w).alloc (.cells #[.string (tx A), .string (tx B)] 25))
  have E : Hid ((tx A ++ (⟨#[62]⟩ : ByteArray)) ++ tx B = ptx (A, B)) := ptx_eq (A, B)
  have zl : (tx A).size ≤ 3000001 := by show A.txt.length ≤ _; rw [Tr.txt_length]; omega
  have zr : (tx B).size ≤ 3000001 := by show B.txt.length ≤ _; rw [Tr.txt_length]; omega
  generalize ptx (A, B) = z at *
  go_enter Tryz.func36, Tryz.ntmps36
  go_wp2_with fail
  go_ret
  exact ⟨by rw [E.out]; rfl, X1.out⟩
end Go.Proofs.YtdcipaaclpedhaaGreat.N
namespace Go.Proofs.YtdcipaaclpedhaaGreat.N
open Go.RowKit
abbrev TP : Type := Tr × Tr
def redR (a : Tr) (B : List Tr) : List TP := (B.filter fun b => (bothT a b).isEmpty).map fun b => (a, b)
def redA (A B : List Tr) : List TP := A.flatMap fun a => redR a B
theorem redR_take (a : Tr) (B : List Tr) (j : Nat) (b : Tr) (h : B[j]? = some b) : redR a (B.take (j + 1)) = redR a (B.take j) ++ (if (bothT a b).isEmpty then [(a, b)] else []) := by
  unfold redR
  rw [List.take_add_one, h, List.filter_append, List.map_append]
  cases hb : (bothT a b).isEmpty <;> simp [hb]
theorem redA_take (A B : List Tr) (i : Nat) (a : Tr) (h : A[i]? = some a) : redA (A.take (i + 1)) B = redA (A.take i) B ++ redR a B := by
  rw [List.take_add_one, h]; simp [redA, List.flatMap_append]
theorem redR_length (a : Tr) (B : List Tr) : (redR a B).length ≤ B.length := by
  unfold redR
  rw [List.length_map]
  exact List.length_filter_le _ _
theorem redA_length (A B : List Tr) : (redA A B).length ≤ A.length * B.length := by
  unfold redA
  induction A with
  | nil => simp
  | cons a A ih =>
    rw [List.flatMap_cons, List.length_append, List.length_cons, Nat.add_mul]
    have := redR_length a B
    omega
theorem redA_mem {A B : List Tr} {p : TP} (h : p ∈ redA A B) : p.1 ∈ A ∧ p.2 ∈ B ∧ bothT p.1 p.2 = [] := by
  unfold redA redR at h
  obtain ⟨a, ha, h⟩ := List.mem_flatMap.1 h
  obtain ⟨b, hb, rfl⟩ := List.mem_map.1 h
  obtain ⟨h1, h2⟩ := List.mem_filter.1 hb
  exact ⟨ha, h1, by simpa using h2⟩
def insP (x : TP) : List TP → List TP
  | [] => [x]
  | y :: l => if blt (ptx y) (ptx x) then y :: insP x l else x :: y :: l
def srtP (l : List TP) : List TP := l.foldl (fun acc x => insP x acc) []
theorem insP_tx (x : TP) : ∀ l, (insP x l).map ptx = ins (ptx x) (l.map ptx)
  | [] => rfl
  | y :: l => by simp only [insP, ins, List.map_cons]; split <;> simp [insP_tx x l]
theorem insP_perm (x : TP) : ∀ l, (insP x l).Perm (x :: l)
  | [] => List.Perm.refl _
  | y :: l => by
    simp only [insP]
    split
    · exact (List.Perm.cons y (insP_perm x l)).trans (List.Perm.swap x y l)
    · exact List.Perm.refl _
theorem foldl_insP_tx : ∀ (l acc : List TP), (l.foldl (fun acc x => insP x acc) acc).map ptx = (l.map ptx).foldl (fun acc x => ins x acc) (acc.map ptx)
  | [], acc => rfl
  | x :: l, acc => by simp only [List.foldl_cons, List.map_cons]; rw [foldl_insP_tx l, insP_tx]
theorem srtP_tx (l : List TP) : (srtP l).map ptx = srt (l.map ptx) := foldl_insP_tx l []
theorem foldl_insP_perm : ∀ (l acc : List TP), (l.foldl (fun acc x => insP x acc) acc).Perm (acc ++ l)
  | [], acc => by simp
  | x :: l, acc => by
    refine (foldl_insP_perm l (insP x acc)).trans ?_
    refine ((insP_perm x acc).append_right l).trans ?_
    exact (List.perm_middle (a := x) (l₁ := acc) (l₂ := l)).symm
theorem srtP_perm (l : List TP) : (srtP l).Perm l := foldl_insP_perm l []
theorem map_inj {α β : Type} {f : α → β} (hf : ∀ a b, f a = f b → a = b) : ∀ {l m : List α}, l.map f = m.map f → l = m
  | [], [], _ => rfl
  | [], _ :: _, h => by simp at h
  | _ :: _, [], h => by simp at h
  | a :: l, b :: m, h => by
    simp only [List.map_cons, List.cons.injEq] at h
    rw [hf a b h.1, map_inj hf h.2]
theorem srtP_of {l d : List TP} (hp : d.Perm l) (hs : Srt (d.map ptx)) : d = srtP l := by
  refine map_inj (f := ptx) (fun a b h => ptx_inj h) ?_
  rw [srtP_tx]
  exact srt_unique _ _ ((hp.map ptx).trans (srt_perm _).symm) hs (srt_srt _)
def prs (n : Nat) : List TP := srtP (redA (TL n) (TL n))
theorem prs_length (n : Nat) : (prs n).length = (redA (TL n) (TL n)).length := (srtP_perm _).length_eq
theorem prs_le (n : Nat) (h : n ≤ 4) : (prs n).length ≤ 196 := by
  rw [prs_length]
  have := TL_le n h
  exact Nat.le_trans (redA_length _ _) (Nat.mul_le_mul this this)
theorem prs_mem {n : Nat} {p : TP} (h : p ∈ prs n) : p.1.carets = n ∧ p.2.carets = n ∧ bothT p.1 p.2 = [] := by
  have h := redA_mem ((srtP_perm _).mem_iff.1 h)
  exact ⟨TL_carets n _ h.1, TL_carets n _ h.2.1, h.2.2⟩
def smallP (n : Nat) : List TP := (List.range (n + 1)).flatMap prs
theorem smallP_step (k : Nat) : (List.range (k + 1)).flatMap prs = (List.range k).flatMap prs ++ prs k := by simp [List.range_succ, List.flatMap_append]
theorem smallP_le (k : Nat) (h : k ≤ 5) : ((List.range k).flatMap prs).length ≤ k * 196 := by
  induction k with
  | zero => simp
  | succ k ih =>
    rw [smallP_step, List.length_append]
    have := prs_le k (by omega)
    have := ih (by omega)
    omega
theorem smallP_mem {n : Nat} {p : TP} (h : p ∈ smallP n) : ∃ k, k ≤ n ∧ p.1.carets = k ∧ p.2.carets = k ∧ bothT p.1 p.2 = [] := by
  obtain ⟨k, hk, h⟩ := List.mem_flatMap.1 h
  exact ⟨k, by have := List.mem_range.1 hk; omega, prs_mem h⟩
def psT (l : List (ByteArray × ByteArray)) : List Value := l.flatMap fun x => [.string x.1, .string x.2]
def psP (l : List TP) : List Value := psT (l.map fun p => (tx p.1, tx p.2))
theorem psT_length : ∀ l : List (ByteArray × ByteArray), (psT l).length = l.length * 2
  | [] => rfl
  | x :: l => by
    have := psT_length l
    unfold psT at *
    rw [List.flatMap_cons, List.length_append, this, List.length_cons]; simp; omega
theorem psT_append (l m : List (ByteArray × ByteArray)) : psT (l ++ m) = psT l ++ psT m := by simp [psT]
theorem psT_get : ∀ (l : List (ByteArray × ByteArray)) (k : Nat) (x : ByteArray × ByteArray), l[k]? = some x → (psT l)[k * 2]? = some (.string x.1) ∧ (psT l)[k * 2 + 1]? = some (.string x.2)
  | [], _, _, h => by simp at h
  | y :: l, 0, x, h => by
    simp only [List.getElem?_cons_zero, Option.some.injEq] at h
    subst h
    exact ⟨rfl, rfl⟩
  | y :: l, k + 1, x, h => by
    have ih := psT_get l k x (by simpa using h)
    have e : psT (y :: l) = [.string y.1, .string y.2] ++ psT l := rfl
    rw [e, show (k + 1) * 2 = k * 2 + 2 by omega]
    refine ⟨?_, ?_⟩
    · rw [List.getElem?_append_right (by simp)]; simpa using ih.1
    · rw [List.getElem?_append_right (by simp)]; simpa using ih.2
theorem psT_one (l : List (ByteArray × ByteArray)) : ∀ u ∈ psT l, u.oneCell' = true := by
  intro u hu
  unfold psT at hu
  obtain ⟨x, _, h⟩ := List.mem_flatMap.1 hu
  simp at h
  rcases h with rfl | rfl <;> rfl
theorem psP_length (l : List TP) : (psP l).length = l.length * 2 := by rw [psP, psT_length, List.length_map]
theorem psP_append (l m : List TP) : psP (l ++ m) = psP l ++ psP m := by simp [psP, psT_append]
theorem psP_get (l : List TP) (k : Nat) (p : TP) (h : l[k]? = some p) : (psP l)[k * 2]? = some (.string (tx p.1)) ∧ (psP l)[k * 2 + 1]? = some (.string (tx p.2)) := psT_get _ k (tx p.1, tx p.2) (by simp [h])
theorem psP_one (l : List TP) : ∀ u ∈ psP l, u.oneCell' = true := psT_one _
end Go.Proofs.YtdcipaaclpedhaaGreat.N
namespace Go.Proofs.YtdcipaaclpedhaaGreat.N
def powT (q : TP) : Nat → TP
  | 0 => (.leaf, .leaf)
  | k + 1 => mul (powT q k) q
theorem powT_carets {q : TP} (hq : q.1.carets = q.2.carets) (h3 : q.2.carets ≤ 3) : ∀ k, (powT q k).1.carets = (powT q k).2.carets ∧ (powT q k).2.carets ≤ k * 3
  | 0 => ⟨rfl, Nat.le_refl _⟩
  | k + 1 => by
    obtain ⟨h1, h2⟩ := powT_carets hq h3 k
    obtain ⟨h4, h5⟩ := mul_carets (p := powT q k) (q := q) h1 hq
    exact ⟨h4, by show (mul (powT q k) q).2.carets ≤ _; omega⟩
def rootB (p : TP) (k : Nat) (q : TP) : Bool := decide (ptx (powT q k) = ptx (red p))
end Go.Proofs.YtdcipaaclpedhaaGreat.N
namespace Go.Proofs.YtdcipaaclpedhaaGreat.N
open Go.RowKit
theorem txt_no62 : ∀ T : Tr, ∀ c ∈ T.txt, c ≠ 62
  | .leaf, c, h => by
    have : c = 46 := by simpa [Tr.txt] using h
    subst this; decide
  | .node l r, c, h => by
    simp only [Tr.txt, List.mem_cons, List.mem_append, List.not_mem_nil, or_false] at h
    have h1 := txt_no62 l c
    have h2 := txt_no62 r c
    rcases h with h | h
    · subst h; decide
    · first
      | (rcases h with h | h | h
         · exact h1 h
         · exact h2 h
         · subst h; decide)
      | (rcases h with (h | h) | h
         · exact h1 h
         · exact h2 h
         · subst h; decide)
set_option maxHeartbeats 6400000 in
set_option maxRecDepth 100000 in
theorem l1Split_two (a b : List UInt8) (ha : ∀ c ∈ a, c ≠ 62) (hb : ∀ c ∈ b, c ≠ 62) (hl : a.length + b.length ≤ 100000) (w : World) :
    Calls Tryz.prog 89 #[.string (S (a ++ 62 :: b)), .int .u8 62] w fun e w' => ∃ A c, e = .returned (.slice A 2 c) ∧ Own w' w.heap.size 9 (.slice A 2 c) (strs [S a, S b]) ∧ Ext w w' := by
  obtain ⟨m, hm⟩ : ∃ m, a.length = m := ⟨_, rfl⟩
  have SL : (S (a ++ 62 :: b)).size = m + 1 + b.length := by rw [S_size, List.length_append, List.length_cons]; omega
  have F1 : Hid ((S (a ++ 62 :: b)).extract 0 m = S a) := by
    show _ = _
    rw [S_extract, ← hm]; simp
  have F2 : Hid ((S (a ++ 62 :: b)).extract (m + 1) (m + 1 + b.length) = S b) := by
    show _ = _
    rw [← SL, S_size, S_extract, List.take_of_length_le (Nat.le_refl _), ← hm]; simp
  have BY : Hid (∀ i, i < m + 1 + b.length → ∃ c, (a ++ 62 :: b)[i]? = some c ∧ (i = m → c = 62) ∧ (i ≠ m → c ≠ 62)) := by
    intro i hi
    rcases Nat.lt_trichotomy i m with h | h | h
    · refine ⟨a[i], by rw [List.getElem?_append_left (by omega)]; exact List.getElem?_eq_getElem (by omega), fun h2 => by omega, fun _ => ha _ (List.getElem_mem _)⟩
    · exact ⟨62, by rw [List.getElem?_append_right (by omega), h, hm, Nat.sub_self]; rfl, fun _ => rfl, fun h2 => absurd h h2⟩
    · obtain ⟨j, rfl⟩ : ∃ j, i = m + 1 + j := ⟨i - m - 1, by omega⟩
      have hj : j < b.length := by omega
      refine ⟨b[j], ?_, fun h2 => by omega, fun _ => hb _ (List.getElem_mem _)⟩
      rw [List.getElem?_append_right (by omega), hm, show m + 1 + j - m = j + 1 by omega, List.getElem?_cons_succ]
      exact List.getElem?_eq_getElem hj
  have AT : Hid (∀ i c, (a ++ 62 :: b)[i]? = some c → i < (S (a ++ 62 :: b)).size ∧ ∀ h : i < (S (a ++ 62 :: b)).size, (((S (a ++ 62 :: b))[i]'h).toNat : Int) = (c.toNat : Int)) := fun i c h => S_at _ i c h
  obtain ⟨n, hn⟩ : ∃ n, m + 1 + b.length = n := ⟨_, rfl⟩
  rw [hn] at SL F2 BY
  have nb : (n : Int) ≤ 100001 ∧ (m : Int) < n := by omega
  clear ha hb hl hm hn
  generalize S (a ++ 62 :: b) = s at *
  generalize a ++ 62 :: b = l at *
  have X0 := Lib.hid (Ext.refl w)
  go_enter Tryz.func89, Tryz.ntmps89
  go_wp2_with fail
  go_loopw [5, 6, 7] (fun o f i wr => ∃ k : Nat, k ≤ n ∧ i = .int .i64 k ∧ Hid (Ext w wr) ∧ ((k ≤ m ∧ f = .int .i64 0 ∧ o = .slice none 0 0) ∨ (m < k ∧ f = .int .i64 ((m + 1 : Nat) : Int) ∧ Hid (Own wr w.heap.size 9 o (strs [S a]))))) (fun _ _ i _ => n - (intOf i).toNat)
  case atStart => exact ⟨0, Nat.zero_le _, rfl, Ext.refl _, .inl ⟨Nat.zero_le _, rfl, rfl⟩⟩
  case round =>
    obtain ⟨k, hk, rfl, HX, hc⟩ := hrel
    generalize wr = wk at *
    have k0 : (0 : Int) ≤ k := by omega
    by_cases hlt : k < n
    · obtain ⟨c, g1, g2, g3⟩ := BY.out k hlt
      obtain ⟨x1, x2⟩ := AT.out k c g1
      have k1 : (k : Int) < s.size := by omega
      rcases hc with ⟨h1, rfl, rfl⟩ | ⟨h1, rfl, HO⟩
      · rcases Nat.lt_or_eq_of_le h1 with h2 | h2
        · have t1 : ((c.toNat : Int) == 62) = false := byte_ne (g3 (by omega))
          go_wp2_with fail
          exact ⟨⟨k + 1, by omega, by go_num, HX.out, .inl ⟨by omega, rfl, rfl⟩⟩, by simp [intOf]; omega⟩
        · subst h2
          have t1 : ((c.toNat : Int) == 62) = true := by rw [g2 rfl]; rfl
          have kn : (k : Int) ≤ s.size := by omega
          have ON := Own.nil (wk.alloc (.cells #[.string (s.extract 0 k)] 9)) w.heap.size 9
          have X3 := HX.out.alloc (.cells #[.string (s.extract 0 k)] 9)
          have R3 := lit_readsS wk (s.extract 0 k)
          have LL : Hid ((([] : List Value).length + (strs [s.extract 0 k]).length) * 16 ≤ 140737488355328) := by show _ ≤ _; simp [strs]
          have B3 := Lib.hid X3.size
          go_wp2_with (at_builtin; refine wpList_app rfl (.tmp 19) (.tmp 24) 78 rfl w.heap.size 9 (.string ⟨#[]⟩) 16 Tryz.underlying78 infoStr rfl (by omega) _ _ _ (strs [s.extract 0 k]) rfl rfl ON R3 (strs_one _) LL.out B3.out ?_; intro v4 w4 o4 g4 q4)
          have X4 := Lib.hid (X3.grown g4 ON.lo)
          rw [F1.out, List.nil_append] at o4
          have O4 := Lib.hid o4
          clear o4 g4 q4 ON X3 R3
          go_wp2_with fail
          exact ⟨⟨k + 1, by omega, by go_num, X4.out, .inr ⟨by omega, by go_num, O4.out⟩⟩, by simp [intOf]; omega⟩
      · have t1 : ((c.toNat : Int) == 62) = false := byte_ne (g3 (by omega))
        go_wp2_with fail
        exact ⟨⟨k + 1, by omega, by go_num, HX.out, .inr ⟨by omega, rfl, HO.out⟩⟩, by simp [intOf]; omega⟩
    · have k1 : (s.size : Int) ≤ k := by omega
      obtain rfl : k = n := by omega
      rcases hc with ⟨h1, _, _⟩ | ⟨h1, rfl, HO⟩
      · omega
      · obtain ⟨A5, c5, e5, _, _⟩ := HO.out.reads
        subst e5
        have m1 : (0 : Int) ≤ (m : Int) + 1 ∧ (m : Int) + 1 ≤ s.size := by omega
        have O3 : Own (wk.alloc (.cells #[.string (s.extract (m + 1) k)] 9)) w.heap.size 9 (.slice A5 1 c5) (strs [S a]) := HO.out.ext ((Ext.refl wk).alloc (.cells #[.string (s.extract (m + 1) k)] 9))
        have X3 := HX.out.alloc (.cells #[.string (s.extract (m + 1) k)] 9)
        have R3 := lit_readsS wk (s.extract (m + 1) k)
        have LL : Hid (((strs [S a]).length + (strs [s.extract (m + 1) k]).length) * 16 ≤ 140737488355328) := by show _ ≤ _; simp [strs]
        have B3 := Lib.hid X3.size
        rw [show (strs [S a]).length = 1 from rfl]
        go_wp2_with (at_builtin; refine wpList_app rfl (.tmp 28) (.tmp 32) 78 rfl w.heap.size 9 (.string ⟨#[]⟩) 16 Tryz.underlying78 infoStr rfl (by omega) _ _ _ (strs [s.extract (m + 1) k]) rfl rfl O3 R3 (strs_one _) LL.out B3.out ?_; intro v4 w4 o4 g4 q4)
        have X4 := Lib.hid (X3.grown g4 O3.lo)
        rw [F2.out] at o4
        obtain ⟨A6, c6, e6, _, _⟩ := o4.reads
        subst e6
        have O4 := Lib.hid o4
        clear o4 g4 q4 O3 X3 R3
        go_wp2_with fail
        go_ret
        exact ⟨_, _, rfl, O4.out, X4.out⟩
set_option maxHeartbeats 6400000 in
set_option maxRecDepth 100000 in
theorem prParse_calls (A B : Tr) (hc : A.carets = B.carets) (hB : B.carets ≤ 8) (w : World) :
    Calls Tryz.prog 68 #[.string (ptx (A, B))] w fun e w' => e = .returned (.tuple #[.agg #[.string (tx A), .string (tx B)], .bool true]) ∧ Ext w w' := by
  have CS := Lib.hid (fun W => l1Split_two A.txt B.txt (txt_no62 A) (txt_no62 B) (by rw [Tr.txt_length, Tr.txt_length]; omega) W)
  have E : ifP (A, B) = .tuple #[.agg #[.string (tx A), .string (tx B)], .bool true] := if_pos (show A.carets ≤ 8 by omega)
  have CI := Lib.hid (fun W => prIf_calls A B hc W)
  rw [E] at CI
  have zs : (ptx (A, B)).size ≤ 200 := by rw [ptx_size]; simp only; omega
  have ZS : ¬ ((200 : Int) < (ptx (A, B)).size) := by omega
  have hz : Hid (S (A.txt ++ 62 :: B.txt) = ptx (A, B)) := rfl
  rw [hz.out] at CS
  have ea : S A.txt = tx A := rfl
  have eb : S B.txt = tx B := rfl
  rw [ea, eb] at CS
  clear hz hc hB E ea eb
  generalize tx A = a at *
  generalize tx B = b at *
  generalize ptx (A, B) = z at *
  have X0 := Lib.hid ((Ext.refl w).alloc (.cells #[.string ⟨#[]⟩, .string ⟨#[]⟩] 25))
  have t0 : Two (w.alloc (.cells #[.string ⟨#[]⟩, .string ⟨#[]⟩] 25)) w.heap.size 25 := ⟨_, _, heap_alloc_new w _⟩
  have HW : Hid (w.heap.size < (w.alloc (.cells #[.string ⟨#[]⟩, .string ⟨#[]⟩] 25)).heap.size) := by
    show _ < _
    rw [show (w.alloc (.cells #[.string ⟨#[]⟩, .string ⟨#[]⟩] 25)).heap.size = w.heap.size + 1 from Array.size_push _]
    omega
  go_enter Tryz.func68, Tryz.ntmps68
  go_wp2_with fail
  generalize w.alloc (.cells #[.string ⟨#[]⟩, .string ⟨#[]⟩] 25) = W at *
  refine (CS.out _).mono ?_
  rintro e w1 ⟨A1, c1, rfl, o1, x1⟩
  have o2 : w1.ownsRow W.heap.size 9 1 (.slice A1 2 c1) 2 (strs [a, b]) := o1
  obtain ⟨h, cc, e1, hge⟩ := row_block o2 (by omega)
  have hn1 : ¬ h = w.heap.size := by have := HW.out; omega
  have hn2 : ¬ w.heap.size = h := fun e => hn1 e.symm
  injection e1 with e2 e4 e3
  subst e2
  clear e4
  have d0 : w1.cell? ⟨h, 0, none⟩ = some (.string a) := by rw [World.ownsRow.cellAt o2 0 (by omega)]; rfl
  have d1 : w1.cell? ⟨h, 1, none⟩ = some (.string b) := by rw [World.ownsRow.cellAt o2 1 (by omega)]; rfl
  have T1 := t0.ext x1
  have X1 := Lib.hid (X0.out.trans x1)
  clear o1 o2 t0 x1 e3
  obtain ⟨u, v, k0, k1, _, _⟩ := T1.facts
  have KX : ∀ w', Ext w1 w' → w'.cell? ⟨h, 0, none⟩ = some (.string a) ∧ w'.cell? ⟨h, 1, none⟩ = some (.string b) ∧ w'.cell? ⟨w.heap.size, 0, none⟩ = some u ∧ w'.cell? ⟨w.heap.size, 1, none⟩ = some v ∧ w'.frozen? ⟨w.heap.size, 0, none⟩ = false ∧ w'.frozen? ⟨w.heap.size, 1, none⟩ = false := fun w' hx => by
    obtain ⟨_, _, _, _, f0, f1⟩ := (T1.ext hx).facts
    exact ⟨hx.cell d0, hx.cell d1, hx.cell k0, hx.cell k1, f0, f1⟩
  have T1 := Lib.hid T1
  go_wp2_with fail
  clear d0 d1 k0 k1
  have KY : ∀ w', Ext w1 w' → w'.cell? ⟨h, 0, none⟩ = some (.string a) ∧ w'.cell? ⟨h, 1, none⟩ = some (.string b) := fun w' hx => ⟨(KX w' hx).1, (KX w' hx).2.1⟩
  go_region_held3 (fun w' => w'.cell? ⟨h, 0, none⟩ = some (.string a) ∧ w'.cell? ⟨h, 1, none⟩ = some (.string b))
    (first | with_reducible exact KY _ (Ext.refl _).drew | with_reducible exact KY _ x2 | go_keep)
    (first | (go_at_call 90; refine (CI.out _).mono ?_; rintro e w2 ⟨rfl, hx2⟩; have x2 := (Ext.refl w1).drew.trans hx2; obtain ⟨_, _, k0, k1, f0, f1⟩ := KX _ x2) | fail)
  have T2 := T1.out.ext x2
  have X2 := X1.out.trans x2
  have HH := set2_heap T2 (.string a) (.string b)
  have XX := X2.set2 (g := w.heap.size) (by omega) (.string a) (.string b)
  clear k0 k1 f0 f1 x2 hx2
  go_wp2_with fail
  change bodyPost _ _ _ _ _ (N.set2 _ w.heap.size (.string a) (.string b))
  obtain ⟨hc0, hc1⟩ := cells_of HH
  generalize N.set2 _ w.heap.size (.string a) (.string b) = W3 at *
  exact bodyPost_ret (v := .tuple #[.agg #[.string a, .string b], .bool true]) (by simp [results, Tryz.results68, go_sem, hc0, hc1]) rfl ⟨rfl, XX⟩
end Go.Proofs.YtdcipaaclpedhaaGreat.N
namespace Go.Proofs.YtdcipaaclpedhaaGreat.N
open Go.RowKit
theorem nodup_map {α β : Type} {f : α → β} {l : List α} (hf : ∀ a b, f a = f b → a = b) (h : l.Nodup) : (l.map f).Nodup := by
  unfold List.Nodup at *
  rw [List.pairwise_map]
  exact h.imp fun hne e => hne (hf _ _ e)
theorem TL_nodup (n : Nat) : (TL n).Nodup := by
  induction n using Nat.strongRecOn with
  | _ n ih =>
  cases n with
  | zero => rw [TL_zero]; simp
  | succ n =>
    rw [TL_succ, (srtT_perm _).nodup_iff]
    unfold raw rawJ List.Nodup
    rw [List.pairwise_flatMap]
    refine ⟨fun i hi => ?_, ?_⟩
    · have hi := List.mem_range.1 hi
      rw [List.pairwise_flatMap]
      refine ⟨fun a ha => nodup_map (f := Tr.node a) (fun x y e => by injection e) (ih _ (by omega)), ?_⟩
      refine (ih i (by omega)).imp ?_
      intro a a' hne x hx y hy e
      obtain ⟨b, _, rfl⟩ := List.mem_map.1 hx
      obtain ⟨b', _, rfl⟩ := List.mem_map.1 hy
      injection e with e1 _
      exact hne e1
    · refine List.pairwise_lt_range.imp ?_
      intro i j hij x hx y hy e
      obtain ⟨a, ha, hx⟩ := List.mem_flatMap.1 hx
      obtain ⟨a', ha', hy⟩ := List.mem_flatMap.1 hy
      obtain ⟨b, _, rfl⟩ := List.mem_map.1 hx
      obtain ⟨b', _, rfl⟩ := List.mem_map.1 hy
      injection e with e1 _
      have h1 := TL_carets i a ha
      have h2 := TL_carets j a' ha'
      rw [e1] at h1
      omega
theorem redA_nodup {A B : List Tr} (hA : A.Nodup) (hB : B.Nodup) : (redA A B).Nodup := by
  unfold redA redR List.Nodup
  rw [List.pairwise_flatMap]
  refine ⟨fun a ha => nodup_map (f := fun b => ((a, b) : TP)) (fun x y e => by injection e) (hB.sublist List.filter_sublist), ?_⟩
  refine hA.imp ?_
  intro a a' hne x hx y hy e
  obtain ⟨b, _, rfl⟩ := List.mem_map.1 hx
  obtain ⟨b', _, rfl⟩ := List.mem_map.1 hy
  injection e with e1 _
  exact hne e1
theorem texts_nodup (n : Nat) : ((redA (TL n) (TL n)).map ptx).Nodup := nodup_map (fun _ _ e => ptx_inj e) (redA_nodup (TL_nodup n) (TL_nodup n))
theorem texts_srt (n : Nat) : srt ((redA (TL n) (TL n)).map ptx) = (prs n).map ptx := (srtP_tx _).symm
end Go.Proofs.YtdcipaaclpedhaaGreat.N
