import Derived.Test.YtpmmajfdcicjiaaBa
import Derived.Test.YtpmmajfdcicjiaaPu
import Derived.Test.YtpmmajfdcicjiaaSl
import Derived.Test.YtpmmajfdcicjiaaProg
import Derived.Test.YtpmmajfdcicjiaaTn
import Derived.Test.YtpmmajfdcicjiaaPp
import Derived.Test.YtpmmajfdcicjiaaWl
import Derived.Test.YtpmmajfdcicjiaaTp
import Derived.Deep.LoopGhost
/- Pairs reduced, as the program has them. -/
namespace Go.Proofs.Ytpmmajfdcicjiaa.N
open Go.RowKit
set_option linter.unusedVariables false
set_option linter.unusedSimpArgs false

def ix : List Int → Int → Nat → Int
  | [], _, _ => -1
  | x :: l, n, k => if x = n then (k : Int) else ix l n (k + 1)
theorem ix_ge : ∀ (l : List Int) (n : Int) (k : Nat), (0 ≤ ix l n k ↔ n ∈ l) ∧ -1 ≤ ix l n k
  | [], n, k => by simp [ix]
  | x :: l, n, k => by
    simp only [ix, List.mem_cons]
    by_cases h : x = n
    · rw [if_pos h]; exact ⟨⟨fun _ => .inl h.symm, fun _ => by omega⟩, by omega⟩
    · rw [if_neg h]
      obtain ⟨h1, h2⟩ := ix_ge l n (k + 1)
      refine ⟨⟨fun h' => .inr (h1.1 h'), fun h' => ?_⟩, h2⟩
      rcases h' with e | e
      · exact absurd e.symm h
      · exact h1.2 e

set_option maxHeartbeats 1600000 in
theorem indexInt_calls (xs : List Int) (n : Int) (hl : xs.length < 100000000) (v : Value) (w : World) (hv : Reads w v (ints xs)) :
    Calls Try.prog 202 #[v, .int .i64 n] w fun e w' => e = .returned (.int .i64 (ix xs n 0)) ∧ w = w' := by
  obtain ⟨A, c, rfl, _, rd⟩ := hv
  rw [ints_length] at *
  have RD := Lib.hid rd
  clear rd
  go_enter Try.func202, Try.ntmps202
  go_wp2
  go_loop [8] (fun i => ∃ k : Nat, k ≤ xs.length ∧ i = .int .i64 k ∧ Hid (ix (xs.drop k) n k = ix xs n 0)) (fun i => xs.length - (intOf i).toNat)
  case atStart => exact ⟨0, Nat.zero_le _, rfl, rfl⟩
  case round =>
    obtain ⟨k, hk, rfl, HI⟩ := hrel
    by_cases hlt : k < xs.length
    · obtain ⟨ad, rfl, ca⟩ := RD.out (by omega)
      have c1 := ca k _ (ints_get xs k hlt)
      have h0 : (0 : Int) ≤ k := by omega
      have h1 : (k : Int) < xs.length := by omega
      have HD : Hid (xs.drop k = xs[k] :: xs.drop (k + 1)) := List.drop_eq_getElem_cons hlt
      clear ca
      by_cases hx : xs[k] = n
      · have HE : Hid (ix xs n 0 = (k : Int)) := by show _ = _; rw [← HI.out, HD.out, ix, if_pos hx]
        rw [hx] at c1
        clear hx HD
        go_wp2
        go_ret
        exact ⟨by rw [HE.out]; rfl, rfl⟩
      · have HE : Hid (ix (xs.drop (k + 1)) n (k + 1) = ix xs n 0) := by show _ = _; rw [← HI.out, HD.out, ix, if_neg hx]
        have t1 : (n == xs[k]) = false := by rw [beq_eq_false_iff_ne]; exact fun e => hx e.symm
        clear hx HD
        generalize xs[k] = x at *
        go_wp2
        exact ⟨⟨k + 1, by omega, by go_num, HE.out⟩, by simp [intOf]; omega⟩
    · have h1 : (xs.length : Int) ≤ k := by omega
      have HE : Hid (ix xs n 0 = -1) := by show _ = _; rw [← HI.out, List.drop_eq_nil_of_le (by omega)]; rfl
      go_wp2
      go_ret
      exact ⟨by rw [HE.out]; rfl, rfl⟩

theorem containsInt_calls (xs : List Int) (n : Int) (hl : xs.length < 100000000) (v : Value) (w : World) (hv : Reads w v (ints xs)) :
    Calls Try.prog 185 #[v, .int .i64 n] w fun e w' => e = .returned (.bool (decide (n ∈ xs))) ∧ w = w' := by
  have C := Lib.hid (indexInt_calls xs n hl v w hv)
  obtain ⟨h1, h2⟩ := ix_ge xs n 0
  by_cases h : n ∈ xs
  · have h3 := h1.2 h
    rw [decide_eq_true h]
    clear h1 h hv
    go_enter Try.func185, Try.ntmps185
    go_wp2_with fail
    refine (C.out).mono ?_
    rintro e w1 ⟨rfl, rfl⟩
    go_wp2_with fail
    go_ret
    exact ⟨by first | (simp; done) | (simp; omega), rfl⟩
  · have h3 : ¬ 0 ≤ ix xs n 0 := fun h' => h (h1.1 h')
    rw [decide_eq_false h]
    clear h1 h hv
    go_enter Try.func185, Try.ntmps185
    go_wp2_with fail
    refine (C.out).mono ?_
    rintro e w1 ⟨rfl, rfl⟩
    go_wp2_with fail
    go_ret
    exact ⟨by first | (simp; done) | (simp; omega), rfl⟩

theorem mem_cast (l : List Nat) (x : Nat) : ((x : Int) ∈ l.map fun (n : Nat) => (n : Int)) ↔ x ∈ l := by
  rw [List.mem_map]
  constructor
  · rintro ⟨a, h, e⟩
    obtain rfl : a = x := Int.ofNat.inj e
    exact h
  · intro h
    exact ⟨x, h, rfl⟩

set_option maxHeartbeats 3200000 in
set_option maxRecDepth 100000 in
theorem both_calls (A B : Tr) (hA : A.carets < 10000000) (hB : B.carets < 10000000) (pa pb : Option Addr) (w : World) (ra : Rep w A pa) (rb : Rep w B pb) :
    Calls Try.prog 140 #[.agg #[.pointer pa, .pointer pb]] w (GivesN w (bothT A B)) := by
  have X0 := Lib.hid ((Ext.refl w).alloc (.cells #[.pointer pa, .pointer pb] 93))
  have C1 := exposed_calls B 0 pb _ (by omega) (rb.ext X0.out)
  have C2 := fun W (hx : Ext w W) => exposed_calls A 0 pa W (by omega) (ra.ext hx)
  have LA := expo_length A 0
  have LB := expo_length B 0
  have EB : Hid (bothT A B = (expo A 0).filter fun k => (expo B 0).contains k) := rfl
  have LA' : (expo A 0).length < 10000000 := by omega
  have LB' : (expo B 0).length < 10000000 := by omega
  clear ra rb LA LB hA hB
  generalize expo A 0 = fa at *
  generalize expo B 0 = fb at *
  go_enter Try.func140, Try.ntmps140
  go_wp2_with fail
  refine C1.mono ?_
  rintro e w1 ⟨v1, rfl, o1, x1⟩
  have O1 := Lib.hid o1
  have X1 := Lib.hid (X0.out.trans x1)
  have h1 : w1.cell? ⟨w.heap.size, 0, none⟩ = some (.pointer pa) := x1.cell (by go_simp)
  clear o1 x1
  go_wp2_with fail
  refine (C2 _ X1.out).mono ?_
  rintro e w2 ⟨v2, rfl, o2, x2⟩
  obtain ⟨A2, c2, rfl, _, rd2⟩ := o2.reads
  rw [nats_length] at rd2 ⊢
  have RD := Lib.hid rd2
  have R1 := Lib.hid (O1.out.reads.ext x2)
  have X2 := Lib.hid (X1.out.trans x2)
  clear rd2 o2 x2 h1 O1
  go_wp2_with fail
  go_loopw [3, 14] (fun o i wr => ∃ k : Nat, k ≤ fa.length ∧ i = .int .i64 k ∧ Hid (Own wr w2.heap.size 3 o (nats ((fa.take k).filter fun k => fb.contains k))) ∧ Hid (Ext w2 wr)) (fun _ i _ => fa.length - (intOf i).toNat)
  case atStart => exact ⟨0, Nat.zero_le _, rfl, Own.nil _ _ _, Ext.refl _⟩
  case round =>
    obtain ⟨k, hk, rfl, HO, HX⟩ := hrel
    by_cases hlt : k < fa.length
    · obtain ⟨ad, rfl, ca⟩ := RD.out (by omega)
      have c1 := HX.out.cell (ca k _ (nats_get fa k hlt))
      have h0 : (0 : Int) ≤ k := by omega
      have h1 : (k : Int) < fa.length := by omega
      have FT := Lib.hid (filter_take (fun k => fb.contains k) fa k hlt)
      have LT : Hid (((fa.take k).filter fun k => fb.contains k).length ≤ k) := Nat.le_trans (List.length_filter_le _ _) (List.length_take_le _ _)
      clear ca
      generalize fa[k] = x at *
      have CC := Lib.hid (containsInt_calls (fb.map fun (n : Nat) => (n : Int)) x (by simp; omega) v1 wr (R1.out.ext HX.out))
      have DM : Hid (decide ((x : Int) ∈ fb.map fun (n : Nat) => (n : Int)) = fb.contains x) := by show _ = _; rw [Bool.eq_iff_iff, decide_eq_true_eq, mem_cast]; simp
      cases hc : fb.contains x with
      | false =>
        have FT2 : Hid ((fa.take (k + 1)).filter (fun k => fb.contains k) = (fa.take k).filter (fun k => fb.contains k)) := Lib.hid (by have := FT.out; rw [hc] at this; simpa using this)
        have D2 : Hid (decide ((x : Int) ∈ fb.map fun (n : Nat) => (n : Int)) = false) := Lib.hid (DM.out.trans hc)
        clear hc
        go_wp2_with fail
        refine CC.out.mono ?_
        rw [D2.out]
        rintro e w3 ⟨rfl, rfl⟩
        go_wp2_with fail
        exact ⟨⟨k + 1, by omega, by go_num, FT2.out.symm ▸ HO.out, HX.out⟩, by simp [intOf]; omega⟩
      | true =>
        have FT2 : Hid ((fa.take (k + 1)).filter (fun k => fb.contains k) = (fa.take k).filter (fun k => fb.contains k) ++ [x]) := Lib.hid (by have := FT.out; rw [hc] at this; simpa using this)
        have D2 : Hid (decide ((x : Int) ∈ fb.map fun (n : Nat) => (n : Int)) = true) := Lib.hid (DM.out.trans hc)
        have RL := Lib.hid (Own.lit wr 0 3 #[.int .i64 x] (Nat.zero_le _) (by show 1 ≤ maxLen; decide)).reads
        have O2 := HO.out.ext ((Ext.refl _).alloc (.cells #[.int .i64 x] 3))
        have LL : Hid (((nats ((fa.take k).filter fun k => fb.contains k)).length + (nats [x]).length) * 8 ≤ 140737488355328) := by show _ ≤ _; rw [nats_length, nats_length]; have := LT.out; show (_ + 1) * 8 ≤ _; omega
        have B1 := Lib.hid (HX.out.alloc (.cells #[.int .i64 x] 3)).size
        clear hc
        go_wp2_with fail
        refine CC.out.mono ?_
        rw [D2.out]
        rintro e w3 ⟨rfl, rfl⟩
        go_wp2_with (at_builtin; refine wpList_app rfl (.tmp 21) (.tmp 23) 32 rfl w2.heap.size 3 (.int .i64 0) 8 Try.underlying32 infoInt rfl (by omega) _ _ _ (nats [x]) rfl rfl O2 RL.out (nats_one _) LL.out B1.out ?_; intro v4 w4 o4 g4 _)
        have X4 := Lib.hid ((HX.out.alloc _).grown g4 O2.lo)
        rw [nats_append] at o4
        have O4 := Lib.hid o4
        clear o4 g4 O2
        go_wp2_with fail
        exact ⟨⟨k + 1, by omega, by go_num, FT2.out.symm ▸ O4.out, X4.out⟩, by simp [intOf]; omega⟩
    · have h1 : (fa.length : Int) ≤ k := by omega
      have E : Hid (fa.take k = fa) := List.take_of_length_le (by omega)
      go_wp2_with fail
      go_ret
      refine ⟨_, rfl, ?_, X2.out.trans HX.out⟩
      rw [EB.out]
      exact (E.out ▸ HO.out).mono X2.out.size
end Go.Proofs.Ytpmmajfdcicjiaa.N
