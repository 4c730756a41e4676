import Derived.Test.YtfjhecilkeikiaaG1RFnExactRootsOf
import Derived.Test.YtfjhecilkeikiaaG2RFnExactRootsOf
import Derived.Test.YtfjhecilkeikiaaProg
import Derived.Test.YtfjhecilkeikiaaG6RFnExactRootsOf
import Derived.Test.YtfjhecilkeikiaaG8RFnExactRootsOf
import Derived.Test.YtfjhecilkeikiaaG5RFnExactRootsOf
import Derived.Test.YtfjhecilkeikiaaG3RFnExactRootsOf
import Derived.Test.YtfjhecilkeikiaaG12RFnExactRootsOf
import Derived.Test.YtfjhecilkeikiaaG13RFnExactRootsOf
import Derived.Test.YtfjhecilkeikiaaG14RFnExactRootsOf
import Derived.Test.YtfjhecilkeikiaaG15RFnExactRootsOf
import Derived.Test.YtfjhecilkeikiaaG16RFnExactRootsOf
import Derived.Test.YtfjhecilkeikiaaG18RFnExactRootsOf
import Derived.Test.YtfjhecilkeikiaaG19RFnExactRootsOf
import Derived.Deep.LoopGhost
import Derived.Deep.RegionHeld3
import Derived.Deep.QuietTactic
import Derived.BigQuiet
import Derived.StillTailTactics
import Derived.Shelf.SortM.Plain
import Derived.Shelf.SlSortCmp.WholeK
/- A pair's text parted again, the reference's. -/
namespace Go.Proofs.Ytfjhecilkeikiaa.N
open Go.RowKit
set_option linter.unusedVariables false
set_option linter.unusedSimpArgs false

theorem txt_no62 : ∀ T : Tr, ∀ c ∈ T.txt, c ≠ 62
  | .leaf, c, h => by
    have : c = 46 := by simpa [Tr.txt] using h
    subst this; decide
  | .node l r, c, h => by
    simp only [Tr.txt, List.mem_cons, List.mem_append, List.not_mem_nil, or_false] at h
    have h1 := txt_no62 l c
    have h2 := txt_no62 r c
    rcases h with h | h
    · subst h; decide
    · first
      | (rcases h with h | h | h
         · exact h1 h
         · exact h2 h
         · subst h; decide)
      | (rcases h with (h | h) | h
         · exact h1 h
         · exact h2 h
         · subst h; decide)
set_option maxHeartbeats 6400000 in
set_option maxRecDepth 100000 in
theorem l1Split_two (a b : List UInt8) (ha : ∀ c ∈ a, c ≠ 62) (hb : ∀ c ∈ b, c ≠ 62) (hl : a.length + b.length ≤ 100000) (w : World) :
    Calls Try.prog 90 #[.string (S (a ++ 62 :: b)), .int .u8 62] w fun e w' => ∃ A c, e = .returned (.slice A 2 c) ∧ Own w' w.heap.size 9 (.slice A 2 c) (strs [S a, S b]) ∧ Ext w w' := by
  obtain ⟨m, hm⟩ : ∃ m, a.length = m := ⟨_, rfl⟩
  have SL : (S (a ++ 62 :: b)).size = m + 1 + b.length := by rw [S_size, List.length_append, List.length_cons]; omega
  have F1 : Hid ((S (a ++ 62 :: b)).extract 0 m = S a) := by
    show _ = _
    rw [S_extract, ← hm]; simp
  have F2 : Hid ((S (a ++ 62 :: b)).extract (m + 1) (m + 1 + b.length) = S b) := by
    show _ = _
    rw [← SL, S_size, S_extract, List.take_of_length_le (Nat.le_refl _), ← hm]; simp
  have BY : Hid (∀ i, i < m + 1 + b.length → ∃ c, (a ++ 62 :: b)[i]? = some c ∧ (i = m → c = 62) ∧ (i ≠ m → c ≠ 62)) := by
    intro i hi
    rcases Nat.lt_trichotomy i m with h | h | h
    · refine ⟨a[i], by rw [List.getElem?_append_left (by omega)]; exact List.getElem?_eq_getElem (by omega), fun h2 => by omega, fun _ => ha _ (List.getElem_mem _)⟩
    · exact ⟨62, by rw [List.getElem?_append_right (by omega), h, hm, Nat.sub_self]; rfl, fun _ => rfl, fun h2 => absurd h h2⟩
    · obtain ⟨j, rfl⟩ : ∃ j, i = m + 1 + j := ⟨i - m - 1, by omega⟩
      have hj : j < b.length := by omega
      refine ⟨b[j], ?_, fun h2 => by omega, fun _ => hb _ (List.getElem_mem _)⟩
      rw [List.getElem?_append_right (by omega), hm, show m + 1 + j - m = j + 1 by omega, List.getElem?_cons_succ]
      exact List.getElem?_eq_getElem hj
  have AT : Hid (∀ i c, (a ++ 62 :: b)[i]? = some c → i < (S (a ++ 62 :: b)).size ∧ ∀ h : i < (S (a ++ 62 :: b)).size, (((S (a ++ 62 :: b))[i]'h).toNat : Int) = (c.toNat : Int)) := fun i c h => S_at _ i c h
  obtain ⟨n, hn⟩ : ∃ n, m + 1 + b.length = n := ⟨_, rfl⟩
  rw [hn] at SL F2 BY
  have nb : (n : Int) ≤ 100001 ∧ (m : Int) < n := by omega
  clear ha hb hl hm hn
  generalize S (a ++ 62 :: b) = s at *
  generalize a ++ 62 :: b = l at *
  have X0 := Lib.hid (Ext.refl w)
  go_enter Try.func90, Try.ntmps90
  go_wp2_with fail
  go_loopw [5, 6, 7] (fun o f i wr => ∃ k : Nat, k ≤ n ∧ i = .int .i64 k ∧ Hid (Ext w wr) ∧ ((k ≤ m ∧ f = .int .i64 0 ∧ o = .slice none 0 0) ∨ (m < k ∧ f = .int .i64 ((m + 1 : Nat) : Int) ∧ Hid (Own wr w.heap.size 9 o (strs [S a]))))) (fun _ _ i _ => n - (intOf i).toNat)
  case atStart => exact ⟨0, Nat.zero_le _, rfl, Ext.refl _, .inl ⟨Nat.zero_le _, rfl, rfl⟩⟩
  case round =>
    obtain ⟨k, hk, rfl, HX, hc⟩ := hrel
    generalize wr = wk at *
    have k0 : (0 : Int) ≤ k := by omega
    by_cases hlt : k < n
    · obtain ⟨c, g1, g2, g3⟩ := BY.out k hlt
      obtain ⟨x1, x2⟩ := AT.out k c g1
      have k1 : (k : Int) < s.size := by omega
      rcases hc with ⟨h1, rfl, rfl⟩ | ⟨h1, rfl, HO⟩
      · rcases Nat.lt_or_eq_of_le h1 with h2 | h2
        · have t1 : ((c.toNat : Int) == 62) = false := byte_ne (g3 (by omega))
          go_wp2_with fail
          exact ⟨⟨k + 1, by omega, by go_num, HX.out, .inl ⟨by omega, rfl, rfl⟩⟩, by simp [intOf]; omega⟩
        · subst h2
          have t1 : ((c.toNat : Int) == 62) = true := by rw [g2 rfl]; rfl
          have kn : (k : Int) ≤ s.size := by omega
          have ON := Own.nil (wk.alloc (.cells #[.string (s.extract 0 k)] 9)) w.heap.size 9
          have X3 := HX.out.alloc (.cells #[.string (s.extract 0 k)] 9)
          have R3 := lit_readsS wk (s.extract 0 k)
          have LL : Hid ((([] : List Value).length + (strs [s.extract 0 k]).length) * 16 ≤ 140737488355328) := by show _ ≤ _; simp [strs]
          have B3 := Lib.hid X3.size
          go_wp2_with (at_builtin; refine wpList_app rfl (.tmp 19) (.tmp 24) 53 rfl w.heap.size 9 (.string ⟨#[]⟩) 16 Try.underlying53 infoStr rfl (by omega) _ _ _ (strs [s.extract 0 k]) rfl rfl ON R3 (strs_one _) LL.out B3.out ?_; intro v4 w4 o4 g4 q4)
          have X4 := Lib.hid (X3.grown g4 ON.lo)
          rw [F1.out, List.nil_append] at o4
          have O4 := Lib.hid o4
          clear o4 g4 q4 ON X3 R3
          go_wp2_with fail
          exact ⟨⟨k + 1, by omega, by go_num, X4.out, .inr ⟨by omega, by go_num, O4.out⟩⟩, by simp [intOf]; omega⟩
      · have t1 : ((c.toNat : Int) == 62) = false := byte_ne (g3 (by omega))
        go_wp2_with fail
        exact ⟨⟨k + 1, by omega, by go_num, HX.out, .inr ⟨by omega, rfl, HO.out⟩⟩, by simp [intOf]; omega⟩
    · have k1 : (s.size : Int) ≤ k := by omega
      obtain rfl : k = n := by omega
      rcases hc with ⟨h1, _, _⟩ | ⟨h1, rfl, HO⟩
      · omega
      · obtain ⟨A5, c5, e5, _, _⟩ := HO.out.reads
        subst e5
        have m1 : (0 : Int) ≤ (m : Int) + 1 ∧ (m : Int) + 1 ≤ s.size := by omega
        have O3 : Own (wk.alloc (.cells #[.string (s.extract (m + 1) k)] 9)) w.heap.size 9 (.slice A5 1 c5) (strs [S a]) := HO.out.ext ((Ext.refl wk).alloc (.cells #[.string (s.extract (m + 1) k)] 9))
        have X3 := HX.out.alloc (.cells #[.string (s.extract (m + 1) k)] 9)
        have R3 := lit_readsS wk (s.extract (m + 1) k)
        have LL : Hid (((strs [S a]).length + (strs [s.extract (m + 1) k]).length) * 16 ≤ 140737488355328) := by show _ ≤ _; simp [strs]
        have B3 := Lib.hid X3.size
        rw [show (strs [S a]).length = 1 from rfl]
        go_wp2_with (at_builtin; refine wpList_app rfl (.tmp 28) (.tmp 32) 53 rfl w.heap.size 9 (.string ⟨#[]⟩) 16 Try.underlying53 infoStr rfl (by omega) _ _ _ (strs [s.extract (m + 1) k]) rfl rfl O3 R3 (strs_one _) LL.out B3.out ?_; intro v4 w4 o4 g4 q4)
        have X4 := Lib.hid (X3.grown g4 O3.lo)
        rw [F2.out] at o4
        obtain ⟨A6, c6, e6, _, _⟩ := o4.reads
        subst e6
        have O4 := Lib.hid o4
        clear o4 g4 q4 O3 X3 R3
        go_wp2_with fail
        go_ret
        exact ⟨_, _, rfl, O4.out, X4.out⟩

set_option maxHeartbeats 6400000 in
set_option maxRecDepth 100000 in
theorem prParse_calls (A B : Tr) (hc : A.carets = B.carets) (hB : B.carets ≤ 8) (w : World) :
    Calls Try.prog 55 #[.string (ptx (A, B))] w fun e w' => e = .returned (.tuple #[.agg #[.string (tx A), .string (tx B)], .bool true]) ∧ Ext w w' := by
  have CS := Lib.hid (fun W => l1Split_two A.txt B.txt (txt_no62 A) (txt_no62 B) (by rw [Tr.txt_length, Tr.txt_length]; omega) W)
  have E : ifP (A, B) = .tuple #[.agg #[.string (tx A), .string (tx B)], .bool true] := if_pos (show A.carets ≤ 8 by omega)
  have CI := Lib.hid (fun W => prIf_calls A B hc W)
  rw [E] at CI
  have zs : (ptx (A, B)).size ≤ 200 := by rw [ptx_size]; simp only; omega
  have ZS : ¬ ((200 : Int) < (ptx (A, B)).size) := by omega
  have hz : Hid (S (A.txt ++ 62 :: B.txt) = ptx (A, B)) := rfl
  rw [hz.out] at CS
  have ea : S A.txt = tx A := rfl
  have eb : S B.txt = tx B := rfl
  rw [ea, eb] at CS
  clear hz hc hB E ea eb
  generalize tx A = a at *
  generalize tx B = b at *
  generalize ptx (A, B) = z at *
  have X0 := Lib.hid ((Ext.refl w).alloc (.cells #[.string ⟨#[]⟩, .string ⟨#[]⟩] 28))
  have t0 : Two (w.alloc (.cells #[.string ⟨#[]⟩, .string ⟨#[]⟩] 28)) w.heap.size 28 := ⟨_, _, heap_alloc_new w _⟩
  have HW : Hid (w.heap.size < (w.alloc (.cells #[.string ⟨#[]⟩, .string ⟨#[]⟩] 28)).heap.size) := by
    show _ < _
    rw [show (w.alloc (.cells #[.string ⟨#[]⟩, .string ⟨#[]⟩] 28)).heap.size = w.heap.size + 1 from Array.size_push _]
    omega
  go_enter Try.func55, Try.ntmps55
  go_wp2_with fail
  generalize w.alloc (.cells #[.string ⟨#[]⟩, .string ⟨#[]⟩] 28) = W at *
  refine (CS.out _).mono ?_
  rintro e w1 ⟨A1, c1, rfl, o1, x1⟩
  have o2 : w1.ownsRow W.heap.size 9 1 (.slice A1 2 c1) 2 (strs [a, b]) := o1
  obtain ⟨h, cc, e1, hge⟩ := row_block o2 (by omega)
  have hn1 : ¬ h = w.heap.size := by have := HW.out; omega
  have hn2 : ¬ w.heap.size = h := fun e => hn1 e.symm
  injection e1 with e2 e4 e3
  subst e2
  clear e4
  have d0 : w1.cell? ⟨h, 0, none⟩ = some (.string a) := by rw [World.ownsRow.cellAt o2 0 (by omega)]; rfl
  have d1 : w1.cell? ⟨h, 1, none⟩ = some (.string b) := by rw [World.ownsRow.cellAt o2 1 (by omega)]; rfl
  have T1 := t0.ext x1
  have X1 := Lib.hid (X0.out.trans x1)
  clear o1 o2 t0 x1 e3
  obtain ⟨u, v, k0, k1, _, _⟩ := T1.facts
  have KX : ∀ w', Ext w1 w' → w'.cell? ⟨h, 0, none⟩ = some (.string a) ∧ w'.cell? ⟨h, 1, none⟩ = some (.string b) ∧ w'.cell? ⟨w.heap.size, 0, none⟩ = some u ∧ w'.cell? ⟨w.heap.size, 1, none⟩ = some v ∧ w'.frozen? ⟨w.heap.size, 0, none⟩ = false ∧ w'.frozen? ⟨w.heap.size, 1, none⟩ = false := fun w' hx => by
    obtain ⟨_, _, _, _, f0, f1⟩ := (T1.ext hx).facts
    exact ⟨hx.cell d0, hx.cell d1, hx.cell k0, hx.cell k1, f0, f1⟩
  have T1 := Lib.hid T1
  go_wp2_with fail
  clear d0 d1 k0 k1
  have KY : ∀ w', Ext w1 w' → w'.cell? ⟨h, 0, none⟩ = some (.string a) ∧ w'.cell? ⟨h, 1, none⟩ = some (.string b) := fun w' hx => ⟨(KX w' hx).1, (KX w' hx).2.1⟩
  go_region_held3 (fun w' => w'.cell? ⟨h, 0, none⟩ = some (.string a) ∧ w'.cell? ⟨h, 1, none⟩ = some (.string b))
    (first | with_reducible exact KY _ (Ext.refl _).drew | with_reducible exact KY _ x2 | go_keep)
    (first | (go_at_call 91; refine (CI.out _).mono ?_; rintro e w2 ⟨rfl, hx2⟩; have x2 := (Ext.refl w1).drew.trans hx2; obtain ⟨_, _, k0, k1, f0, f1⟩ := KX _ x2) | fail)
  have T2 := T1.out.ext x2
  have X2 := X1.out.trans x2
  have HH := set2_heap T2 (.string a) (.string b)
  have XX := X2.set2 (g := w.heap.size) (by omega) (.string a) (.string b)
  clear k0 k1 f0 f1 x2 hx2
  go_wp2_with fail
  change bodyPost _ _ _ _ _ (N.set2 _ w.heap.size (.string a) (.string b))
  obtain ⟨hc0, hc1⟩ := cells_of HH
  generalize N.set2 _ w.heap.size (.string a) (.string b) = W3 at *
  exact bodyPost_ret (v := .tuple #[.agg #[.string a, .string b], .bool true]) (by simp [results, Try.results55, go_sem, hc0, hc1]) rfl ⟨rfl, XX⟩
end Go.Proofs.Ytfjhecilkeikiaa.N
/- Sorts: what the shelf asks of this program (printed by mk/lay2.py). -/
namespace Go.Proofs.Ytfjhecilkeikiaa.N
open Go.Shelf Go.RowKit

def sortStr_ren : Go.Shelf.Ren := ⟨fun
  | 6 => 99 | 8 => 95 | 9 => 127 | 19 => 125 | 20 => 126 | 21 => 147 | 22 => 148 | 23 => 149 | 24 => 150 | 25 => 151 | 26 => 152 | 27 => 153 | 28 => 154 | 29 => 155 | 36 => 161 | 31 => 143 | 32 => 144 | 37 => 162 | 38 => 163 | 39 => 164 | 41 => 166
  | n => n, fun
  | 27 => 53 | 29 => 9 | 3 => 3 | 32 => 114 | 26 => 53 | 0 => 0 | 44 => 137 | 46 => 139 | 4 => 4 | 36 => 131 | 35 => 130 | 41 => 35 | 5 => 5 | 9 => 9 | 53 => 148 | 57 => 152 | 63 => 162 | 64 => 163
  | n => n, fun
 
  | n => n⟩
theorem sortStr : Go.Proofs.SlLaysM.n6 Try.prog sortStr_ren := {
  mixed := by kernel_rfl,
  f6 := ⟨Try.f99.name, by decide, Try.func99.trans (congrArg some (by kernel_rfl))⟩,
  f8 := Try.func95.trans (congrArg some (by kernel_rfl)),
  f9 := ⟨Try.f127.name, by decide, Try.func127.trans (congrArg some (by kernel_rfl))⟩,
  f19 := Try.func125.trans (congrArg some (by kernel_rfl)),
  f20 := Try.func126.trans (congrArg some (by kernel_rfl)),
  f21 := ⟨Try.f147.name, by decide, Try.func147.trans (congrArg some (by kernel_rfl))⟩,
  f22 := ⟨Try.f148.name, by decide, Try.func148.trans (congrArg some (by kernel_rfl))⟩,
  f23 := ⟨Try.f149.name, by decide, Try.func149.trans (congrArg some (by kernel_rfl))⟩,
  f24 := ⟨Try.f150.name, by decide, Try.func150.trans (congrArg some (by kernel_rfl))⟩,
  f25 := ⟨Try.f151.name, by decide, Try.func151.trans (congrArg some (by kernel_rfl))⟩,
  f26 := ⟨Try.f152.name, by decide, Try.func152.trans (congrArg some (by kernel_rfl))⟩,
  f27 := ⟨Try.f153.name, by decide, Try.func153.trans (congrArg some (by kernel_rfl))⟩,
  f28 := ⟨Try.f154.name, by decide, Try.func154.trans (congrArg some (by kernel_rfl))⟩,
  f29 := ⟨Try.f155.name, by decide, Try.func155.trans (congrArg some (by kernel_rfl))⟩,
  f31 := Try.func143.trans (congrArg some (by kernel_rfl)),
  f32 := Try.func144.trans (congrArg some (by kernel_rfl)),
  f36 := ⟨Try.f161.name, by decide, Try.func161.trans (congrArg some (by kernel_rfl))⟩,
  f37 := ⟨Try.f162.name, by decide, Try.func162.trans (congrArg some (by kernel_rfl))⟩,
  f38 := ⟨Try.f163.name, by decide, Try.func163.trans (congrArg some (by kernel_rfl))⟩,
  f39 := ⟨Try.f164.name, by decide, Try.func164.trans (congrArg some (by kernel_rfl))⟩,
  f41 := ⟨Try.f166.name, by decide, Try.func166.trans (congrArg some (by kernel_rfl))⟩,
  t0 := Try.underlying0,
  a0 := Try.isAgg0,
  z0 := Try.sizeOf0,
  v0 := Try.zeroValue0,
  t3 := Try.underlying3,
  a3 := Try.isAgg3,
  z3 := Try.sizeOf3,
  v3 := Try.zeroValue3,
  t4 := Try.underlying4,
  a4 := Try.isAgg4,
  z4 := Try.sizeOf4,
  v4 := Try.zeroValue4,
  t5 := Try.underlying5,
  a5 := Try.isAgg5,
  z5 := Try.sizeOf5,
  v5 := Try.zeroValue5,
  t9 := Try.underlying9,
  a9 := Try.isAgg9,
  z9 := Try.sizeOf9,
  v9 := Try.zeroValue9,
  t26 := Try.underlying53,
  a26 := Try.isAgg53,
  z26 := Try.sizeOf53,
  v26 := Try.zeroValue53,
  t27 := Try.underlying53,
  a27 := Try.isAgg53,
  z27 := Try.sizeOf53,
  v27 := Try.zeroValue53,
  t29 := Try.underlying9,
  a29 := Try.isAgg9,
  z29 := Try.sizeOf9,
  v29 := Try.zeroValue9,
  t32 := Try.underlying114,
  a32 := Try.isAgg114,
  z32 := Try.sizeOf114,
  v32 := Try.zeroValue114,
  t35 := Try.underlying130,
  a35 := Try.isAgg130,
  z35 := Try.sizeOf130,
  v35 := Try.zeroValue130,
  t36 := Try.underlying131,
  a36 := Try.isAgg131,
  z36 := Try.sizeOf131,
  v36 := Try.zeroValue131,
  t41 := Try.underlying35,
  a41 := Try.isAgg35,
  z41 := Try.sizeOf35,
  v41 := Try.zeroValue35,
  t44 := Try.underlying137,
  a44 := Try.isAgg137,
  z44 := Try.sizeOf137,
  v44 := Try.zeroValue137,
  t46 := Try.underlying139,
  a46 := Try.isAgg139,
  z46 := Try.sizeOf139,
  v46 := Try.zeroValue139,
  t53 := Try.underlying148,
  a53 := Try.isAgg148,
  z53 := Try.sizeOf148,
  v53 := Try.zeroValue148,
  t57 := Try.underlying152,
  a57 := Try.isAgg152,
  z57 := Try.sizeOf152,
  v57 := Try.zeroValue152,
  t63 := Try.underlying162,
  a63 := Try.isAgg162,
  z63 := Try.sizeOf162,
  v63 := Try.zeroValue162,
  t64 := Try.underlying163,
  a64 := Try.isAgg163,
  z64 := Try.sizeOf163,
  v64 := Try.zeroValue163 }
theorem sortStr_f : sortStr_ren.f 6 = 99 := rfl

def sortPair_ren : Go.Shelf.Ren := ⟨fun
  | 6 => 70 | 15 => 95 | 14 => 102 | 28 => 125 | 29 => 126 | 20 => 129 | 21 => 130 | 22 => 131 | 23 => 132 | 24 => 133 | 25 => 134 | 26 => 135 | 27 => 136 | 46 => 156 | 47 => 143 | 48 => 144 | 49 => 157 | 50 => 158 | 57 => 165
  | n => n, fun
  | 22 => 38 | 24 => 28 | 25 => 89 | 3 => 3 | 39 => 114 | 0 => 0 | 53 => 137 | 55 => 139 | 4 => 4 | 46 => 131 | 45 => 130 | 50 => 35 | 5 => 5 | 9 => 9 | 66 => 148 | 70 => 152 | 76 => 162 | 77 => 163
  | n => n, fun
 
  | n => n⟩
theorem sortPair : Go.Proofs.SlLaysF0.n6 Try.prog sortPair_ren := {
  mixed := by kernel_rfl,
  f6 := ⟨Try.f70.name, by decide, Try.func70.trans (congrArg some (by kernel_rfl))⟩,
  f14 := ⟨Try.f102.name, by decide, Try.func102.trans (congrArg some (by kernel_rfl))⟩,
  f15 := Try.func95.trans (congrArg some (by kernel_rfl)),
  f20 := ⟨Try.f129.name, by decide, Try.func129.trans (congrArg some (by kernel_rfl))⟩,
  f21 := ⟨Try.f130.name, by decide, Try.func130.trans (congrArg some (by kernel_rfl))⟩,
  f22 := ⟨Try.f131.name, by decide, Try.func131.trans (congrArg some (by kernel_rfl))⟩,
  f23 := ⟨Try.f132.name, by decide, Try.func132.trans (congrArg some (by kernel_rfl))⟩,
  f24 := ⟨Try.f133.name, by decide, Try.func133.trans (congrArg some (by kernel_rfl))⟩,
  f25 := ⟨Try.f134.name, by decide, Try.func134.trans (congrArg some (by kernel_rfl))⟩,
  f26 := ⟨Try.f135.name, by decide, Try.func135.trans (congrArg some (by kernel_rfl))⟩,
  f27 := ⟨Try.f136.name, by decide, Try.func136.trans (congrArg some (by kernel_rfl))⟩,
  f28 := Try.func125.trans (congrArg some (by kernel_rfl)),
  f29 := Try.func126.trans (congrArg some (by kernel_rfl)),
  f46 := ⟨Try.f156.name, by decide, Try.func156.trans (congrArg some (by kernel_rfl))⟩,
  f47 := Try.func143.trans (congrArg some (by kernel_rfl)),
  f48 := Try.func144.trans (congrArg some (by kernel_rfl)),
  f49 := ⟨Try.f157.name, by decide, Try.func157.trans (congrArg some (by kernel_rfl))⟩,
  f50 := ⟨Try.f158.name, by decide, Try.func158.trans (congrArg some (by kernel_rfl))⟩,
  f57 := ⟨Try.f165.name, by decide, Try.func165.trans (congrArg some (by kernel_rfl))⟩,
  t0 := Try.underlying0,
  a0 := Try.isAgg0,
  z0 := Try.sizeOf0,
  v0 := Try.zeroValue0,
  t3 := Try.underlying3,
  a3 := Try.isAgg3,
  z3 := Try.sizeOf3,
  v3 := Try.zeroValue3,
  t4 := Try.underlying4,
  a4 := Try.isAgg4,
  z4 := Try.sizeOf4,
  v4 := Try.zeroValue4,
  t5 := Try.underlying5,
  a5 := Try.isAgg5,
  z5 := Try.sizeOf5,
  v5 := Try.zeroValue5,
  t9 := Try.underlying9,
  a9 := Try.isAgg9,
  z9 := Try.sizeOf9,
  v9 := Try.zeroValue9,
  t22 := Try.underlying38,
  a22 := Try.isAgg38,
  z22 := Try.sizeOf38,
  v22 := Try.zeroValue38,
  t25 := Try.underlying89,
  a25 := Try.isAgg89,
  z25 := Try.sizeOf89,
  v25 := Try.zeroValue89,
  t39 := Try.underlying114,
  a39 := Try.isAgg114,
  z39 := Try.sizeOf114,
  v39 := Try.zeroValue114,
  t45 := Try.underlying130,
  a45 := Try.isAgg130,
  z45 := Try.sizeOf130,
  v45 := Try.zeroValue130,
  t46 := Try.underlying131,
  a46 := Try.isAgg131,
  z46 := Try.sizeOf131,
  v46 := Try.zeroValue131,
  t50 := Try.underlying35,
  a50 := Try.isAgg35,
  z50 := Try.sizeOf35,
  v50 := Try.zeroValue35,
  t53 := Try.underlying137,
  a53 := Try.isAgg137,
  z53 := Try.sizeOf137,
  v53 := Try.zeroValue137,
  t55 := Try.underlying139,
  a55 := Try.isAgg139,
  z55 := Try.sizeOf139,
  v55 := Try.zeroValue139,
  t66 := Try.underlying148,
  a66 := Try.isAgg148,
  z66 := Try.sizeOf148,
  v66 := Try.zeroValue148,
  t70 := Try.underlying152,
  a70 := Try.isAgg152,
  z70 := Try.sizeOf152,
  v70 := Try.zeroValue152,
  t76 := Try.underlying162,
  a76 := Try.isAgg162,
  z76 := Try.sizeOf162,
  v76 := Try.zeroValue162,
  t77 := Try.underlying163,
  a77 := Try.isAgg163,
  z77 := Try.sizeOf163,
  v77 := Try.zeroValue163 }
theorem sortPair_f : sortPair_ren.f 6 = 70 := rfl
end Go.Proofs.Ytfjhecilkeikiaa.N
