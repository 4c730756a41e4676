import Derived.Test.YtfjhecilkeikiaaBa
import Derived.Test.YtfjhecilkeikiaaPu
import Derived.Test.YtfjhecilkeikiaaSl
import Derived.Test.YtfjhecilkeikiaaProg
import Derived.Test.YtfjhecilkeikiaaTn
import Derived.Test.YtfjhecilkeikiaaTs
import Derived.Test.YtfjhecilkeikiaaPp
import Derived.Test.YtfjhecilkeikiaaPg
import Derived.Test.YtfjhecilkeikiaaPh
import Derived.Test.YtfjhecilkeikiaaWl
import Derived.Test.YtfjhecilkeikiaaWt
import Derived.Test.YtfjhecilkeikiaaTp
import Derived.Test.YtfjhecilkeikiaaTr
import Derived.Test.YtfjhecilkeikiaaTu
import Derived.Test.YtfjhecilkeikiaaTv
import Derived.Test.YtfjhecilkeikiaaTw
import Derived.Test.YtfjhecilkeikiaaTg
import Derived.Test.YtfjhecilkeikiaaSx
import Derived.Test.YtfjhecilkeikiaaSy
import Derived.Test.YtfjhecilkeikiaaSz
import Derived.Test.YtfjhecilkeikiaaSw
import Derived.Test.YtfjhecilkeikiaaSg
import Derived.Test.YtfjhecilkeikiaaSj
import Derived.Test.YtfjhecilkeikiaaTk
import Derived.Test.YtfjhecilkeikiaaCl
import Derived.Test.YtfjhecilkeikiaaCw
import Derived.Test.YtfjhecilkeikiaaCx
import Derived.Test.YtfjhecilkeikiaaWp
import Derived.Test.YtfjhecilkeikiaaWq
import Derived.Test.YtfjhecilkeikiaaRh
import Derived.Test.YtfjhecilkeikiaaAc
import Derived.Test.YtfjhecilkeikiaaAw
import Derived.Test.YtfjhecilkeikiaaRw
import Derived.Test.YtfjhecilkeikiaaPn
import Derived.Test.YtfjhecilkeikiaaPt
import Derived.Test.YtfjhecilkeikiaaLp
import Derived.Test.YtfjhecilkeikiaaLc
import Derived.Test.YtfjhecilkeikiaaCz
import Derived.Test.YtfjhecilkeikiaaCy
import Derived.Deep.LoopGhost
import Derived.Deep.RegionHeld3
import Derived.Deep.QuietTactic
import Derived.StillTailTactics
import Derived.BigQuiet
import Derived.Deep.CutRange
/- The pair of a word, and LeastConjugate, the reference's. -/
namespace Go.Proofs.Ytfjhecilkeikiaa.N
open Go.RowKit
set_option linter.unusedVariables false
set_option linter.unusedSimpArgs false

theorem pairW_carets : ∀ (n : Nat) (ws : List Int), ws.length = n → (∀ x ∈ ws, x ≠ 0 ∧ -2 ≤ x ∧ x ≤ 2) → (pairW ws).2.carets ≤ 3 * n := by
  intro n
  induction n with
  | zero => intro ws h _; obtain rfl := List.length_eq_zero_iff.1 h; exact Nat.le_refl _
  | succ n ih =>
    intro ws h hz
    obtain ⟨u, x, rfl⟩ : ∃ u x, ws = u ++ [x] := ⟨ws.dropLast, ws.getLast (by intro e; subst e; simp at h), (List.dropLast_concat_getLast _).symm⟩
    have hx := hz x (by simp)
    have hu : ∀ y ∈ u, y ≠ 0 ∧ -2 ≤ y ∧ y ≤ 2 := fun y hy => hz y (List.mem_append_left _ hy)
    have i := ih u (by simp at h; omega) hu
    have hb := pairW_bal (fun y hy => (hu y hy).1 : NZ u)
    have lc := letP_carets hx.1
    have mc := mul_carets (p := pairW u) (q := letP x) hb (letP_bal hx.1)
    rw [pairW_snoc]
    omega
set_option maxHeartbeats 3200000 in
set_option maxRecDepth 100000 in
theorem cjPair_calls (xs : List Int) (hl : xs.length ≤ 4) (hT : ∀ x ∈ xs, x ≠ 0 ∧ -2 ≤ x ∧ x ≤ 2) (v : Value) (w : World) (hv : Reads w v (ints xs)) :
    Calls Try.prog 62 #[v] w fun e w' => e = .returned (.agg #[.string (tx (pairW xs).1), .string (tx (pairW xs).2)]) ∧ Ext w w' := by
  have X2 := Lib.hid ((Ext.refl w).alloc (.cells #[.string ⟨#[]⟩, .string ⟨#[]⟩] 28))
  have t1 := Two.new w (.string ⟨#[]⟩) (.string ⟨#[]⟩) 28 rfl
  have V := Lib.hid hv
  have HT := Lib.hid hT
  have L1 := Lib.hid hl
  obtain ⟨AA, cc, rfl, _, _⟩ := hv
  rw [ints_length] at *
  have hl' : (xs.length : Int) ≤ 4 := by omega
  clear hT
  go_enter Try.func62, Try.ntmps62
  go_wp2_with fail
  generalize w.alloc (.cells #[.string ⟨#[]⟩, .string ⟨#[]⟩] 28) = W at *
  refine (prUnit_calls _).mono ?_
  rintro e w1 ⟨rfl, x1⟩
  have xb := x1.alloc (.cells #[.string (tx .leaf), .string (tx .leaf)] 28)
  have B3 := Lib.hid (heap_alloc_new w1 (.cells #[.string (tx .leaf), .string (tx .leaf)] 28))
  have X3 := Lib.hid (X2.out.trans xb)
  have T1 := Lib.hid (t1.ext xb)
  have NE : Hid (w.heap.size ≠ w1.heap.size ∧ w.heap.size ≤ w1.heap.size) := by have := t1.lt; have := x1.size; have := X2.out.size; exact ⟨by omega, by omega⟩
  clear t1 xb x1
  go_wp2_with fail
  generalize w1.alloc (.cells #[.string (tx .leaf), .string (tx .leaf)] 28) = W1 at *
  go_loopw [9] (fun i wr => ∃ j : Nat, j ≤ xs.length ∧ i = .int .i64 j ∧ Hid (wr.heap[w1.heap.size]? = some (.cells #[.string (tx (pairW (xs.take j)).1), .string (tx (pairW (xs.take j)).2)] 28)) ∧ Hid (Two wr w.heap.size 28) ∧ Hid (Ext w wr)) (fun i _ => xs.length - (intOf i).toNat)
  case atStart => exact ⟨0, Nat.zero_le _, rfl, B3.out, T1.out, X3.out⟩
  case round =>
    obtain ⟨j, hj, rfl, HB, HT1, HX⟩ := hrel
    obtain ⟨d0, d1⟩ := cells_of HB.out
    by_cases hlt : j < xs.length
    · have hx : xs[j]? = some xs[j] := List.getElem?_eq_getElem hlt
      obtain ⟨A1, c1, e1, _, rd⟩ := V.out.ext HX.out
      rw [ints_length] at *
      injection e1 with e1 _ e3
      subst e1 e3
      obtain ⟨ad, rfl, ca⟩ := rd (by omega)
      have c2 := ca j _ (ints_get xs j hlt)
      have h0 : (0 : Int) ≤ j := by omega
      have h1 : (j : Int) < xs.length := by omega
      have LT := HT.out _ (List.mem_of_getElem? hx)
      have TK : Hid (pairW (xs.take (j + 1)) = mul (pairW (xs.take j)) (letP xs[j])) := by show _ = _; rw [List.take_add_one, hx]; exact pairW_snoc _ _
      have HTk : ∀ y ∈ xs.take j, y ≠ 0 ∧ -2 ≤ y ∧ y ≤ 2 := fun y hy => HT.out y (List.mem_of_mem_take hy)
      have pc := pairW_carets _ (xs.take j) rfl HTk
      have pl : (xs.take j).length ≤ 4 := by rw [List.length_take]; omega
      have pbl := pairW_bal (fun y hy => (HTk y hy).1 : NZ (xs.take j))
      have lc := letP_carets LT.1
      have CL := Lib.hid (fun W => wdLetter_calls xs[j] ⟨LT.1, by omega, by omega⟩ W)
      have CC := Lib.hid (fun W => prTimes_calls (pairW (xs.take j)).1 (pairW (xs.take j)).2 (letP xs[j]).1 (letP xs[j]).2 pbl (letP_bal LT.1) (by omega) (by omega) W)
      rw [show ((letP xs[j]).1, (letP xs[j]).2) = letP xs[j] from rfl, show ((pairW (xs.take j)).1, (pairW (xs.take j)).2) = pairW (xs.take j) from rfl, ← TK.out] at CC
      generalize xs[j] = x at *
      generalize tx (letP x).1 = l1 at *
      generalize tx (letP x).2 = l2 at *
      clear rd ca hx LT pc pl lc pbl HTk
      have TB : Hid (Two wr w1.heap.size 28) := ⟨_, _, HB.out⟩
      generalize tx (pairW (xs.take j)).1 = sc at *
      generalize tx (pairW (xs.take j)).2 = sd at *
      obtain ⟨z1, hz1⟩ : ∃ z, z = tx (pairW (xs.take (j + 1))).1 := ⟨_, rfl⟩
      obtain ⟨z2, hz2⟩ : ∃ z, z = tx (pairW (xs.take (j + 1))).2 := ⟨_, rfl⟩
      rw [← hz1, ← hz2] at CC
      have HZ := Lib.hid (And.intro hz1 hz2)
      clear hz1 hz2
      go_wp2_with fail
      rw [show Op.load 28 (Operand.tmp 3) = shy (Op.load 28 (Operand.tmp 3)) from rfl]
      go_region_held3 (fun w' => Ext w w')
        (first | with_reducible exact HX.out.drew | with_reducible exact HX.out.trans x2 | with_reducible exact HX.out.trans x3 | exact (HX.out.trans x3).set2 (g := w1.heap.size) NE.out.2 _ _ | fail)
        (first
          | (go_at_call 88; refine (CL.out _).mono ?_; rintro e w5 ⟨rfl, hx2⟩; have x2 : Ext wr w5 := (Ext.refl wr).drew.trans hx2; have d0' := x2.cell d0; have d1' := x2.cell d1)
          | (go_at_call 47; refine (CC.out _).mono ?_; rintro e w6 ⟨rfl, hx3⟩; have x3 := x2.trans hx3; obtain ⟨u, v, k0, k1, f0, f1⟩ := (TB.out.ext x3).facts)
          | fail)
      all_goals
        have TX := TB.out.ext x3
        have HH := set2_heap TX (.string z1) (.string z2)
        rw [HZ.out.1, HZ.out.2] at HH
        have HH := Lib.hid HH
        have T1 := Lib.hid ((HT1.out.ext x3).far (g := w1.heap.size) NE.out.1 (.string z1) (.string z2))
        have XX := Lib.hid ((HX.out.trans x3).set2 (g := w1.heap.size) NE.out.2 (.string z1) (.string z2))
        change Exit.inBlock _ _ _ _ (N.set2 w6 w1.heap.size (.string z1) (.string z2))
        rw [HZ.out.1, HZ.out.2] at T1 XX ⊢
        clear k0 k1 f0 f1 TX x3 x2 hx2 hx3 d0' d1' d0 d1
        generalize N.set2 w6 w1.heap.size (.string (tx (pairW (xs.take (j + 1))).1)) (.string (tx (pairW (xs.take (j + 1))).2)) = w7 at *
        go_wp2_with fail
        exact ⟨⟨j + 1, by omega, by go_num, HH.out, T1.out, XX.out⟩, by simp [intOf]; omega⟩
    · have h1 : (xs.length : Int) ≤ j := by omega
      obtain rfl : j = xs.length := by omega
      rw [List.take_length] at d0 d1
      obtain ⟨rc, hrc⟩ : ∃ rc, tx (pairW xs).1 = rc := ⟨_, rfl⟩
      obtain ⟨rd, hrd⟩ : ∃ rd, tx (pairW xs).2 = rd := ⟨_, rfl⟩
      rw [hrc] at d0
      rw [hrd] at d1
      have HRC := Lib.hid hrc
      have HRD := Lib.hid hrd
      clear hrc hrd
      obtain ⟨u, v, k0, k1, f0, f1⟩ := HT1.out.facts
      go_wp2_with fail
      have HH := set2_heap HT1.out (.string rc) (.string rd)
      have XX := HX.out.set2 (g := w.heap.size) (Nat.le_refl _) (.string rc) (.string rd)
      change bodyPost _ _ _ _ _ (N.set2 wr w.heap.size (.string rc) (.string rd))
      obtain ⟨hc0, hc1⟩ := cells_of HH
      generalize N.set2 wr w.heap.size (.string rc) (.string rd) = W3 at *
      exact bodyPost_ret (v := .agg #[.string rc, .string rd]) (by simp [results, Try.results62, go_sem, hc0, hc1]) rfl ⟨by rw [HRC.out, HRD.out], XX⟩
end Go.Proofs.Ytfjhecilkeikiaa.N
