import Derived.Test.YtfjhecilkeikiaaG1RFnExactRootsOf
import Derived.Test.YtfjhecilkeikiaaG2RFnExactRootsOf
import Derived.Test.YtfjhecilkeikiaaProg
import Derived.Test.YtfjhecilkeikiaaG6RFnExactRootsOf
import Derived.Test.YtfjhecilkeikiaaG7RFnExactRootsOf
import Derived.Test.YtfjhecilkeikiaaG8RFnExactRootsOf
import Derived.Test.YtfjhecilkeikiaaG5RFnExactRootsOf
import Derived.Test.YtfjhecilkeikiaaG3RFnExactRootsOf
import Derived.Test.YtfjhecilkeikiaaG12RFnExactRootsOf
import Derived.Test.YtfjhecilkeikiaaG13RFnExactRootsOf
import Derived.Test.YtfjhecilkeikiaaG14RFnExactRootsOf
import Derived.Test.YtfjhecilkeikiaaG15RFnExactRootsOf
import Derived.Test.YtfjhecilkeikiaaG16RFnExactRootsOf
import Derived.Test.YtfjhecilkeikiaaG18RFnExactRootsOf
import Derived.Test.YtfjhecilkeikiaaG19RFnExactRootsOf
import Derived.Test.YtfjhecilkeikiaaG20RFnExactRootsOf
import Derived.Test.YtfjhecilkeikiaaG21RFnExactRootsOf
import Derived.Test.YtfjhecilkeikiaaG22RFnExactRootsOf
import Derived.Deep.LoopGhost
import Derived.Deep.RegionHeld3
import Derived.Deep.QuietTactic
import Derived.BigQuiet
import Derived.StillTailTactics
/- The small reduced pairs: both functions. -/
namespace Go.Proofs.Ytfjhecilkeikiaa.N
open Go.RowKit
set_option linter.unusedVariables false
set_option linter.unusedSimpArgs false

section
variable {P : Program}
/-- append(v, s...) at rows of the call's own, the second one whole, maybe nil. -/
theorem wpList_appRow {w : World} {ops : Array Oper} {rest : List Oper} {o : Oper} {a : Act} {Q : Exit → Act → World → Prop} (hgd : o.guard = none) (x y : Operand) (t : TypeId)
    (ho : o.op = .call { callee := .builtin .append, args := #[x, y], argTypes := #[t, t] })
    (base : Nat) (e : TypeId) (z : Value) (size bytes : Nat) (ht : P.underlying t = some (.slice e)) (hinfo : (P.info? e).map (fun i => (i.zero, i.size, i.bytes)) = some (some z, size, bytes)) (hz : z.cells.size = size) (hs0 : 0 < size)
    (v s : Value) (n m b2 : Nat) (xs news : List Value) (hx : a.eval x = v) (hy : a.eval y = s) (hown : w.ownsRow base e size v n xs) (hs : w.ownsRow b2 e size s m news) (h1 : ∀ u ∈ news, u.oneCell' = true)
    (h63 : n + m ≤ maxLen) (hbytes : (n + m) * bytes ≤ 140737488355328) (hbase : base ≤ w.heap.size)
    (h : ∀ v' w', w'.ownsRow base e size v' (n + m) (xs ++ news) → w.grownBy w' v.ownBlock → (v'.ownBlock = v.ownBlock ∨ v'.ownBlock = some w.heap.size) → wpList P ops Q rest (a.put o.dst v') w') : wpList P ops Q (o :: rest) a w := by
  rcases hs.2 with ⟨rfl, h0⟩ | ⟨g, cap, cur, rfl, _⟩
  · subst h0
    obtain rfl : news = [] := List.eq_nil_of_length_eq_zero (by have := hs.1; omega)
    obtain ⟨i, hi, _⟩ := Option.map_eq_some_iff.1 hinfo
    refine wpList_append_own_none hgd x y t ho base e i size ht hi v n xs hx hown hy ?_
    exact h v w (by simpa using hown) (grownBy_refl _ _) (.inl rfl)
  · exact wpList_appK hgd x y t ho base e z size bytes ht hinfo hz hs0 v n m cap ⟨g, 0, none⟩ xs news hx hy hown hs.1 (fun j u hu => hs.cells rfl j u hu) h1 h63 hbytes hbase h
end

set_option maxHeartbeats 6400000 in
set_option maxRecDepth 100000 in
theorem small_calls (n : Nat) (hn : n ≤ 3) (w : World) : Calls Try.prog 42 #[.int .i64 n] w fun e w' => ∃ v, e = .returned v ∧ w'.ownsRow w.heap.size 28 2 v (smallP n).length (psP (smallP n)) ∧ Ext w w' := by
  have CR := Lib.hid (fun k (h : k ≤ 4) W => reducedPairs_calls k h W)
  have EQ : Hid ((List.range (n + 1)).flatMap prs = smallP n) := rfl
  have nb : (n : Int) ≤ 3 := by omega
  go_enter Try.func42, Try.ntmps42
  go_wp2_with fail
  go_loopw [7, 3] (fun i v wr => ∃ k : Nat, k ≤ n + 1 ∧ i = .int .i64 k ∧ Hid (wr.ownsRow w.heap.size 28 2 v ((List.range k).flatMap prs).length (psP ((List.range k).flatMap prs))) ∧ Hid (Ext w wr)) (fun i _ _ => n + 1 - (intOf i).toNat)
  case atStart => exact ⟨0, Nat.zero_le _, rfl, World.ownsRow_nil _ _ _ _, Ext.refl _⟩
  case round =>
    obtain ⟨k, hk, rfl, HO, HX⟩ := hrel
    generalize wr = wk at *
    by_cases hlt : k < n + 1
    · have k0 : (0 : Int) ≤ k := by omega
      have k1 : (k : Int) < (n : Int) + 1 := by omega
      have ST := Lib.hid (smallP_step k)
      have L1 := Lib.hid (smallP_le k (by omega))
      have L2 := Lib.hid (prs_le k (by omega))
      have C1 := Lib.hid (CR.out k (by omega))
      have K4 : Hid (k ≤ 4) := by show _ ≤ _; omega
      generalize (List.range k).flatMap prs = P at *
      generalize prs k = R at *
      go_wp2_with fail
      refine (C1.out _).mono ?_
      rintro e w1 ⟨v1, rfl, o1, x1⟩
      have O1 := row_ext HO.out x1
      have X1 := HX.out.trans x1
      have B1 := Lib.hid X1.size
      have pl : P.length ≤ 784 ∧ R.length ≤ 196 := by have := L1.out; have := L2.out; have := K4.out; omega
      go_wp2_with (at_builtin; refine wpList_appRow rfl (.tmp 10) (.tmp 12) 38 rfl w.heap.size 28 _ 2 32 Try.underlying38 infoPr rfl (by omega) _ _ P.length R.length _ _ _ rfl rfl O1 o1 (psP_one _) (by unfold maxLen; omega) (by omega) B1.out ?_; intro v4 w4 o4 g4 q4)
      have X4 := Lib.hid (X1.grown g4 (fun k hk => (World.ownsRow.lt O1 k hk).1))
      rw [← psP_append, ← List.length_append, ← ST.out] at o4
      have O4 := Lib.hid o4
      clear o4 g4 q4 O1 o1 X1 x1
      go_wp2_with fail
      exact ⟨⟨k + 1, by omega, by go_num, O4.out, X4.out⟩, by simp [intOf]; omega⟩
    · have k1 : (n : Int) + 1 ≤ k := by omega
      obtain rfl : k = n + 1 := by omega
      have O5 := HO.out
      rw [EQ.out] at O5
      have O5 := Lib.hid O5
      go_wp2_with fail
      go_ret
      exact ⟨_, rfl, O5.out, HX.out⟩
end Go.Proofs.Ytfjhecilkeikiaa.N
/- Trees and reduced pairs, each one once: plain Lean. -/
namespace Go.Proofs.Ytfjhecilkeikiaa.N
open Go.RowKit
set_option linter.unusedVariables false
set_option linter.unusedSimpArgs false

theorem nodup_map {α β : Type} {f : α → β} {l : List α} (hf : ∀ a b, f a = f b → a = b) (h : l.Nodup) : (l.map f).Nodup := by
  unfold List.Nodup at *
  rw [List.pairwise_map]
  exact h.imp fun hne e => hne (hf _ _ e)
theorem TL_nodup (n : Nat) : (TL n).Nodup := by
  induction n using Nat.strongRecOn with
  | _ n ih =>
  cases n with
  | zero => rw [TL_zero]; simp
  | succ n =>
    rw [TL_succ, (srtT_perm _).nodup_iff]
    unfold raw rawJ List.Nodup
    rw [List.pairwise_flatMap]
    refine ⟨fun i hi => ?_, ?_⟩
    · have hi := List.mem_range.1 hi
      rw [List.pairwise_flatMap]
      refine ⟨fun a ha => nodup_map (f := Tr.node a) (fun x y e => by injection e) (ih _ (by omega)), ?_⟩
      refine (ih i (by omega)).imp ?_
      intro a a' hne x hx y hy e
      obtain ⟨b, _, rfl⟩ := List.mem_map.1 hx
      obtain ⟨b', _, rfl⟩ := List.mem_map.1 hy
      injection e with e1 _
      exact hne e1
    · refine List.pairwise_lt_range.imp ?_
      intro i j hij x hx y hy e
      obtain ⟨a, ha, hx⟩ := List.mem_flatMap.1 hx
      obtain ⟨a', ha', hy⟩ := List.mem_flatMap.1 hy
      obtain ⟨b, _, rfl⟩ := List.mem_map.1 hx
      obtain ⟨b', _, rfl⟩ := List.mem_map.1 hy
      injection e with e1 _
      have h1 := TL_carets i a ha
      have h2 := TL_carets j a' ha'
      rw [e1] at h1
      omega
theorem redA_nodup {A B : List Tr} (hA : A.Nodup) (hB : B.Nodup) : (redA A B).Nodup := by
  unfold redA redR List.Nodup
  rw [List.pairwise_flatMap]
  refine ⟨fun a ha => nodup_map (f := fun b => ((a, b) : TP)) (fun x y e => by injection e) (hB.sublist List.filter_sublist), ?_⟩
  refine hA.imp ?_
  intro a a' hne x hx y hy e
  obtain ⟨b, _, rfl⟩ := List.mem_map.1 hx
  obtain ⟨b', _, rfl⟩ := List.mem_map.1 hy
  injection e with e1 _
  exact hne e1
theorem texts_nodup (n : Nat) : ((redA (TL n) (TL n)).map ptx).Nodup := nodup_map (fun _ _ e => ptx_inj e) (redA_nodup (TL_nodup n) (TL_nodup n))
theorem texts_srt (n : Nat) : srt ((redA (TL n) (TL n)).map ptx) = (prs n).map ptx := (srtP_tx _).symm
end Go.Proofs.Ytfjhecilkeikiaa.N
