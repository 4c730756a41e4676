import Derived.Test.YtpmmajfdcicjiaaG1RFnRotationsMade
import Derived.Test.YtpmmajfdcicjiaaG2RFnRotationsMade
import Derived.Test.YtpmmajfdcicjiaaG12RFnRotationsMade
import Derived.Test.YtpmmajfdcicjiaaG14RFnRotationsMade
import Derived.Test.YtpmmajfdcicjiaaG4RFnRotationsMade
import Derived.Test.YtpmmajfdcicjiaaProg
import Derived.Test.YtpmmajfdcicjiaaG3RFnRotationsMade
import Derived.Test.YtpmmajfdcicjiaaG6RFnRotationsMade
import Derived.Test.YtpmmajfdcicjiaaG8RFnRotationsMade
import Derived.Test.YtpmmajfdcicjiaaG9RFnRotationsMade
import Derived.Test.YtpmmajfdcicjiaaG11RFnRotationsMade
import Derived.OwnWalk
import Derived.Deep.LoopGhost
import Derived.Deep.RegionHeld3
import Derived.Deep.QuietTactic
import Derived.BigQuiet
/- Rotations: undone back, neighbours of one another, each once; chains end at the comb: plain Lean. -/
namespace Go.Proofs.Ytpmmajfdcicjiaa.N
set_option linter.unusedVariables false
set_option linter.unusedSimpArgs false

theorem rot_back {bk : Bool} {T U : Tr} (h : rot bk T = some U) : rot (!bk) U = some T := by
  cases T with
  | leaf => simp [rot] at h
  | node l r =>
    cases bk
    · cases l with
      | leaf => simp [rot] at h
      | node a b => simp [rot] at h; subst h; rfl
    · cases r with
      | leaf => simp [rot] at h
      | node a b => simp [rot] at h; subst h; rfl
theorem turnT_back {bk : Bool} : ∀ {a : List UInt8} {T U : Tr}, turnT bk a T = some U → turnT (!bk) a U = some T
  | [], T, U, h => rot_back h
  | _ :: _, .leaf, U, h => by simp [turnT] at h
  | c :: l, .node a b, U, h => by
    simp only [turnT] at h
    split at h
    · rename_i hc
      obtain ⟨x, hx, rfl⟩ := Option.map_eq_some_iff.1 h
      simp only [turnT, if_pos hc, turnT_back hx, Option.map_some]
    · rename_i hc
      split at h
      · rename_i hd
        obtain ⟨x, hx, rfl⟩ := Option.map_eq_some_iff.1 h
        simp only [turnT, if_neg hc, if_pos hd, turnT_back hx, Option.map_some]
      · cases h
theorem turnT_place {bk : Bool} : ∀ {a : List UInt8} {T U : Tr}, turnT bk a T = some U → a ∈ T.places []
  | [], .leaf, U, h => by simp [turnT, rot] at h
  | [], .node l r, U, h => by simp [Tr.places]
  | _ :: _, .leaf, U, h => by simp [turnT] at h
  | c :: l, .node a b, U, h => by
    have h1 : a.places [48] = (a.places []).map (48 :: ·) := by have := places_map a [48] []; simpa using this
    have h2 : b.places [49] = (b.places []).map (49 :: ·) := by have := places_map b [49] []; simpa using this
    simp only [Tr.places, List.nil_append, h1, h2]
    simp only [turnT] at h
    split at h
    · rename_i hc
      obtain ⟨x, hx, rfl⟩ := Option.map_eq_some_iff.1 h
      subst hc
      have := turnT_place hx
      simp [this]
    · split at h
      · rename_i hd
        obtain ⟨x, hx, rfl⟩ := Option.map_eq_some_iff.1 h
        subst hd
        have := turnT_place hx
        simp [this]
      · cases h
theorem mem_turns {bk : Bool} {a : List UInt8} {T U : Tr} (h : turnT bk a T = some U) : a ∈ T.turns bk := List.mem_filter.2 ⟨turnT_place h, by rw [h]; rfl⟩
theorem mem_moves {bk : Bool} {T U : Tr} : U ∈ moves bk T ↔ ∃ a, turnT bk a T = some U :=
  ⟨fun h => let ⟨a, _, h⟩ := List.mem_filterMap.1 h; ⟨a, h⟩, fun ⟨a, h⟩ => List.mem_filterMap.2 ⟨a, mem_turns h, h⟩⟩
theorem mem_near {T U : Tr} : U ∈ near0 T ↔ ∃ bk a, turnT bk a T = some U := by
  unfold near0
  rw [List.mem_append, mem_moves, mem_moves]
  constructor
  · rintro (⟨a, h⟩ | ⟨a, h⟩)
    · exact ⟨_, a, h⟩
    · exact ⟨_, a, h⟩
  · rintro ⟨bk, a, h⟩
    cases bk
    · exact .inl ⟨a, h⟩
    · exact .inr ⟨a, h⟩
theorem near_symm {T U : Tr} (h : U ∈ near0 T) : T ∈ near0 U := by
  obtain ⟨bk, a, h⟩ := mem_near.1 h
  exact mem_near.2 ⟨!bk, a, turnT_back h⟩
theorem moves_phi_f {T U : Tr} (h : U ∈ moves false T) : U.phi < T.phi := let ⟨a, h⟩ := mem_moves.1 h; turnT_phi h
theorem moves_phi_t {T U : Tr} (h : U ∈ moves true T) : T.phi < U.phi := let ⟨a, h⟩ := mem_moves.1 h; turnT_phi (turnT_back h)
theorem moves_ne {bk : Bool} {T U : Tr} (h : U ∈ moves bk T) : U ≠ T := by
  cases bk
  · have := moves_phi_f h; intro e; rw [e] at this; omega
  · have := moves_phi_t h; intro e; rw [e] at this; omega
theorem moves_node (bk : Bool) (l r : Tr) : moves bk (.node l r) = (rot bk (.node l r)).toList ++ ((moves bk l).map (fun x => .node x r) ++ (moves bk r).map (fun x => .node l x)) := by
  unfold moves
  rw [turns_node, List.filterMap_append, List.filterMap_append, List.filterMap_map, List.filterMap_map]
  congr 1
  · cases h : rot bk (.node l r) with
    | none => rfl
    | some U => simp [turnT, h]
  · congr 1
    · rw [List.map_filterMap]
      congr 1
      try (funext a; simp [turnT, Function.comp])
    · rw [List.map_filterMap]
      congr 1
      try (funext a; simp [turnT, Function.comp])
theorem node_inj_l {r : Tr} : Function.Injective (fun x : Tr => Tr.node x r) := fun a b h => by injection h
theorem node_inj_r {l : Tr} : Function.Injective (fun x : Tr => Tr.node l x) := fun a b h => by injection h
theorem nodup_map_inj {α β : Type} {f : α → β} (hf : Function.Injective f) : ∀ {l : List α}, l.Nodup → (l.map f).Nodup
  | [], _ => List.nodup_nil
  | a :: l, h => by
    have h := List.nodup_cons.1 h
    rw [List.map_cons, List.nodup_cons]
    refine ⟨fun hm => ?_, nodup_map_inj hf h.2⟩
    obtain ⟨b, hb, e⟩ := List.mem_map.1 hm
    exact h.1 (hf e ▸ hb)
theorem moves_nodup (bk : Bool) : ∀ T : Tr, (moves bk T).Nodup
  | .leaf => by cases bk <;> exact List.nodup_nil
  | .node l r => by
    rw [moves_node]
    refine List.nodup_append.2 ⟨?_, List.nodup_append.2 ⟨nodup_map_inj node_inj_l (moves_nodup bk l), nodup_map_inj node_inj_r (moves_nodup bk r), ?_⟩, ?_⟩
    · cases rot bk (.node l r) <;> simp
    · intro x hx y hy e
      obtain ⟨l', hl, rfl⟩ := List.mem_map.1 hx
      obtain ⟨r', hr, rfl⟩ := List.mem_map.1 hy
      injection e with e1 e2
      exact moves_ne hl e1
    · intro x hx y hy e
      subst e
      have hx : rot bk (.node l r) = some x := by simpa using hx
      have hc : ∀ l' r', x = .node l' r' → l'.carets ≠ l.carets := by
        intro l' r' e
        subst e
        cases bk
        · cases l with
          | leaf => simp [rot] at hx
          | node a b => simp [rot] at hx; obtain ⟨rfl, _⟩ := hx; simp only [Tr.carets]; omega
        · cases r with
          | leaf => simp [rot] at hx
          | node a b => simp [rot] at hx; obtain ⟨rfl, _⟩ := hx; simp only [Tr.carets]; omega
      rcases List.mem_append.1 hy with hy | hy
      · obtain ⟨l', hl, rfl⟩ := List.mem_map.1 hy
        exact hc l' r rfl (moves_carets hl)
      · obtain ⟨r', hr, rfl⟩ := List.mem_map.1 hy
        exact hc l r' rfl rfl
theorem near_nodup (T : Tr) : (near0 T).Nodup := List.nodup_append.2 ⟨moves_nodup false T, moves_nodup true T, fun x hx y hy e => by
  subst e
  have := moves_phi_f hx
  have := moves_phi_t hy
  omega⟩
theorem rot_count (l r : Tr) : (rot false (.node l r)).toList.length = (if l.carets = 0 then 0 else 1) ∧ (rot true (.node l r)).toList.length = (if r.carets = 0 then 0 else 1) := by
  constructor
  · cases l with
    | leaf => rfl
    | node a b => rw [if_neg (by simp only [Tr.carets]; omega)]; rfl
  · cases r with
    | leaf => rfl
    | node a b => rw [if_neg (by simp only [Tr.carets]; omega)]; rfl
theorem near_count : ∀ T : Tr, (near0 T).length = T.carets - 1
  | .leaf => rfl
  | .node l r => by
    have hl := near_count l
    have hr := near_count r
    unfold near0 at *
    rw [moves_node, moves_node]
    simp only [List.length_append, List.length_map, (rot_count l r).1, (rot_count l r).2] at *
    simp only [Tr.carets]
    split <;> split <;> omega
theorem S_inj' : Function.Injective tx := fun a b h => tx_inj h
theorem nearS_nodup (T : Tr) : (nearS T).Nodup := (srt_perm _).nodup_iff.2 (nodup_map_inj S_inj' (near_nodup T))
theorem nearS_length (T : Tr) : (nearS T).length = T.carets - 1 := by unfold nearS; rw [srt_length, List.length_map, near_count]
theorem nearS_mem {T : Tr} {s : ByteArray} : s ∈ nearS T ↔ ∃ U, U ∈ near0 T ∧ tx U = s := by
  unfold nearS
  rw [(srt_perm _).mem_iff, List.mem_map]
/-- Neighbours are strictly in order. -/
theorem nearS_lt (T : Tr) (i : Nat) (a b : ByteArray) (ha : (nearS T)[i]? = some a) (hb : (nearS T)[i + 1]? = some b) : blt a b = true := by
  have hs := srt_srt ((near0 T).map tx)
  have hn := nearS_nodup T
  obtain ⟨h1, ea⟩ := List.getElem?_eq_some_iff.1 ha
  obtain ⟨h2, eb⟩ := List.getElem?_eq_some_iff.1 hb
  have h3 : blt b a = false := by
    have := List.pairwise_iff_getElem.1 hs i (i + 1) h1 h2 (Nat.lt_succ_self i)
    rw [← ea, ← eb]
    exact this
  cases h : blt a b with
  | true => rfl
  | false =>
    have e := blt_total h h3
    have := (List.pairwise_iff_getElem.1 hn) i (i + 1) h1 h2 (Nat.lt_succ_self i)
    exact absurd (by rw [ea, eb]; exact e) this
/-- No rotation left: the comb. -/
theorem turns_comb : ∀ T : Tr, T.turns false = [] → T = comb T.carets
  | .leaf, _ => rfl
  | .node l r, h => by
    rw [turns_node] at h
    have h := List.append_eq_nil_iff.1 h
    have h2 := List.append_eq_nil_iff.1 h.2
    cases l with
    | node a b => simp [rot] at h
    | leaf =>
      have hr := turns_comb r (List.map_eq_nil_iff.1 h2.2)
      rw [show (Tr.node .leaf r).carets = r.carets + 1 from by simp only [Tr.carets]; omega]
      show _ = Tr.node .leaf (comb r.carets)
      rw [← hr]
theorem chain_ind {P : Tr → List Tr → Prop} (h0 : ∀ T, T.turns false = [] → P T [T]) (h1 : ∀ T T' , T' ∈ near0 T → T'.carets = T.carets → P T' T'.chain → P T (T :: T'.chain)) : ∀ (n : Nat) (T : Tr), T.phi ≤ n → P T T.chain := by
  intro n
  induction n with
  | zero =>
    intro T hn
    cases ht : T.turns false with
    | nil => rw [chain_none ht]; exact h0 T ht
    | cons a l =>
      obtain ⟨T', h2, h3⟩ := step_cons ht
      have := (step_phi h3).1; omega
  | succ n ih =>
    intro T hn
    cases ht : T.turns false with
    | nil => rw [chain_none ht]; exact h0 T ht
    | cons a l =>
      obtain ⟨T', h2, h3⟩ := step_cons ht
      have h4 := step_phi h3
      rw [chain_step h3]
      exact h1 T T' (mem_near.2 ⟨_, a, h2⟩) h4.2 (ih T' (by omega))
theorem chain_head (T : Tr) : T.chain[0]? = some T := chain_ind (P := fun T l => l[0]? = some T) (fun _ _ => rfl) (fun _ _ _ _ _ => rfl) T.phi T (Nat.le_refl _)
theorem chain_last (T : Tr) : T.chain.getLast? = some (comb T.carets) := chain_ind (P := fun T l => l.getLast? = some (comb T.carets)) (fun T h => by rw [← turns_comb T h]; rfl)
  (fun T T' _ hc h => by
    cases hl : T'.chain with
    | nil => rw [hl] at h; cases h
    | cons x l => rw [List.getLast?_cons_cons, ← hl, h, hc]) T.phi T (Nat.le_refl _)
theorem chain_near (T : Tr) : ∀ (i : Nat) (A B : Tr), T.chain[i]? = some A → T.chain[i + 1]? = some B → B ∈ near0 A :=
  chain_ind (P := fun T l => ∀ (i : Nat) (A B : Tr), l[i]? = some A → l[i + 1]? = some B → B ∈ near0 A) (fun T _ i A B h1 h2 => by simp at h2)
    (fun T T' hn _ h i A B h1 h2 => by
      cases i with
      | zero =>
        have e1 : T = A := by simpa using h1
        have e2 : T'.chain[0]? = some B := by simpa using h2
        rw [chain_head] at e2
        injection e2 with e2
        rw [← e1, ← e2]; exact hn
      | succ i => exact h i A B (by simpa using h1) (by simpa using h2)) T.phi T (Nat.le_refl _)
end Go.Proofs.Ytpmmajfdcicjiaa.N
/- Draws of trees and addresses; lists of texts compared and searched. -/
namespace Go.Proofs.Ytpmmajfdcicjiaa.N
open Go.RowKit
set_option linter.unusedVariables false
set_option linter.unusedSimpArgs false

set_option maxHeartbeats 1600000 in
theorem fTexts_calls (xs : List ByteArray) (hn : xs.length < 1000000000) (va vb : Value) (w : World) (ha : Reads w va (strs xs)) (hb : Reads w vb (strs xs)) :
    Calls Try.prog 44 #[va, vb] w fun e w' => e = .returned (.bool true) ∧ ∃ n, w' = w.drewN n := by
  obtain ⟨A, c, rfl, _, ha⟩ := ha
  obtain ⟨B, d, rfl, _, hb⟩ := hb
  rw [strs_length] at *
  have HA := Lib.hid ha
  have HB := Lib.hid hb
  clear ha hb
  go_enter Try.func44, Try.ntmps44
  go_wp2_with fail
  go_loopw [13] (fun i wr => ∃ k : Nat, k ≤ xs.length ∧ i = .int .i64 k ∧ ∃ n, wr = w.drewN n) (fun i _ => xs.length - (intOf i).toNat)
  case atStart => exact ⟨0, Nat.zero_le _, rfl, 0, rfl⟩
  case round =>
    obtain ⟨k, hk, rfl, n, rfl⟩ := hrel
    by_cases hlt : k < xs.length
    · obtain ⟨ad, rfl, ca⟩ := HA.out (by omega)
      obtain ⟨bd, rfl, cb⟩ := HB.out (by omega)
      have c1 := ca k _ (strs_get xs k hlt)
      have c2 := cb k _ (strs_get xs k hlt)
      have h0 : (0 : Int) ≤ k := by omega
      have h1 : (k : Int) < xs.length := by omega
      clear ca cb HA HB
      generalize xs[k] = x at *
      go_wp2_with fail
      go_quiet (fail)
      go_wp2_with fail
      exact ⟨⟨k + 1, by omega, by go_num, _, rfl⟩, by simp [intOf]; omega⟩
    · have h1 : (xs.length : Int) ≤ k := by omega
      go_wp2_with fail
      go_ret
      exact ⟨rfl, n, rfl⟩

set_option maxHeartbeats 1600000 in
theorem fHas_calls (xs : List ByteArray) (hn : xs.length < 1000000000) (x : ByteArray) (hx : x ∈ xs) (va : Value) (w : World) (ha : Reads w va (strs xs)) :
    Calls Try.prog 45 #[va, .string x] w fun e w' => e = .returned (.bool true) ∧ w = w' := by
  obtain ⟨A, c, rfl, _, ha⟩ := ha
  rw [strs_length] at *
  have HA := Lib.hid ha
  obtain ⟨q, hq, eq⟩ := List.getElem_of_mem hx
  have HX : Hid (∀ k, k ≤ xs.length → (∀ j y, j < k → xs[j]? = some y → y ≠ x) → k ≤ q) := fun k hk h => by
    rcases Nat.lt_or_ge q k with h1 | h1
    · exact absurd eq (h q _ h1 (List.getElem?_eq_getElem hq))
    · exact h1
  have HQ := Lib.hid hq
  clear ha hx eq hq
  go_enter Try.func45, Try.ntmps45
  go_wp2_with fail
  go_loopw [9] (fun i wr => ∃ k : Nat, k ≤ xs.length ∧ i = .int .i64 k ∧ Hid (∀ j y, j < k → xs[j]? = some y → y ≠ x) ∧ wr = w) (fun i _ => xs.length - (intOf i).toNat)
  case atStart => exact ⟨0, Nat.zero_le _, rfl, (fun j y h => by omega), rfl⟩
  case round =>
    obtain ⟨k, hk, rfl, HN, rfl⟩ := hrel
    have hle := HX.out k hk HN.out
    have hlt : k < xs.length := by have := HQ.out; omega
    obtain ⟨ad, rfl, ca⟩ := HA.out (by omega)
    have c1 := ca k _ (strs_get xs k hlt)
    have GE : Hid (xs[k]? = some xs[k]) := List.getElem?_eq_getElem hlt
    have h0 : (0 : Int) ≤ k := by omega
    have h1 : (k : Int) < xs.length := by omega
    clear ca
    generalize xs[k] = y at *
    by_cases hz : y = x
    · have zz : (y.toList == x.toList) = true := by rw [hz]; simp
      go_wp2_with fail
      go_ret
      exact ⟨rfl, rfl⟩
    · have zz : (y.toList == x.toList) = false := by
        cases h : (y.toList == x.toList) with
        | false => rfl
        | true => exact absurd (by rw [S_of y, eq_of_beq h, ← S_of x]) hz
      have HN2 : Hid (∀ j z, j < k + 1 → xs[j]? = some z → z ≠ x) := fun j z hj hz2 => by
        rcases Nat.lt_or_ge j k with h2 | h2
        · exact HN.out j z h2 hz2
        · obtain rfl : j = k := by omega
          rw [GE.out] at hz2
          injection hz2 with hz2
          rw [← hz2]; exact hz
      go_wp2_with fail
      exact ⟨⟨k + 1, by omega, by go_num, HN2.out, trivial⟩, by simp [intOf]; omega⟩

/-- A tree's text (a text of bounded size) and some address. -/
def DrawTA (w : World) (g m : Nat) (e : Ending) (w' : World) : Prop := ∃ s a : ByteArray, s.size ≤ 400 ∧ e = .returned (.tuple #[.string s, .string a]) ∧ Cur w' g m ∧ Mv g w w'
set_option maxHeartbeats 6400000 in
set_option maxRecDepth 100000 in
theorem rotatedC_calls (bk : Bool) (g m : Nat) (w : World) (h : Cur w g (m + 300)) :
    Calls Try.prog 117 #[.pointer (some ⟨g, 0, none⟩), .bool bk] w (DrawTA w g m) := by
  have P1 := Lib.hid (tree_calls g (m + 100) 6 (by omega) w (h.less (by omega)))
  have PF := Lib.hid (fun k v W hv hb (hh : Cur W g (k + 2)) => of_calls g k [⟨#[]⟩, ⟨#[48]⟩, ⟨#[49]⟩, ⟨#[49, 48]⟩, ⟨#[50]⟩, ⟨#[48, 48, 48, 48, 48, 48, 48, 48, 48]⟩] (by simp) (by simp) v W hv hb hh)
  have PO := Lib.hid (fun k n (hn : n ≤ 1000000000) W (hh : Cur W g (k + 2)) => one_calls g k n hn W hh)
  have PP := Lib.hid (fun k n (hn : n ≤ 1000000000) W (hh : Cur W g (k + 2)) => pick_calls g k n hn W hh)
  clear h
  go_enter Try.func117, Try.ntmps117
  go_wp2_with fail
  refine (P1.out).mono ?_
  rintro e w1 ⟨s, hs, rfl, hc, hm⟩
  have HS := Lib.hid hs
  have HC := Lib.hid hc
  have HM := Lib.hid hm
  clear hc hm hs P1
  have REST : Hid (∀ (W : World), Cur W g (m + 50) → Mv g w W → Calls Try.prog 99 #[.pointer (some ⟨g, 0, none⟩), .slice (some ⟨W.heap.size, 0, none⟩) 6 6] (W.alloc (.cells #[.string ⟨#[]⟩, .string ⟨#[48]⟩, .string ⟨#[49]⟩, .string ⟨#[49, 48]⟩, .string ⟨#[50]⟩, .string ⟨#[48, 48, 48, 48, 48, 48, 48, 48, 48]⟩] 9))
      fun e w' => ∃ x, e = .returned (.string x) ∧ Cur w' g m ∧ Mv g w w') := fun W hc hm => by
    have xa := (Ext.refl W).alloc (.cells #[.string ⟨#[]⟩, .string ⟨#[48]⟩, .string ⟨#[49]⟩, .string ⟨#[49, 48]⟩, .string ⟨#[50]⟩, .string ⟨#[48, 48, 48, 48, 48, 48, 48, 48, 48]⟩] 9)
    refine (PF.out m _ _ (Own.lit W 0 9 #[.string ⟨#[]⟩, .string ⟨#[48]⟩, .string ⟨#[49]⟩, .string ⟨#[49, 48]⟩, .string ⟨#[50]⟩, .string ⟨#[48, 48, 48, 48, 48, 48, 48, 48, 48]⟩] (Nat.zero_le _) (by show 6 ≤ maxLen; decide)).reads (by
      have := hc.lt
      simp only [Value.ownBlock]
      intro e
      injection e with e
      omega) ((hc.less (by omega)).ext xa)).mono ?_
    rintro e w' ⟨x, _, rfl, hc2, hm2⟩
    exact ⟨x, rfl, hc2, (hm.trans (xa.mv g)).trans hm2⟩
  by_cases hT : ∃ T, s = tx T ∧ T.carets ≤ 8
  · obtain ⟨T, rfl, h8⟩ := hT
    have C1 := Lib.hid (fun W => trIs_yes T h8 W)
    have C2 := Lib.hid (fun W => brPlaces_calls bk T [] ⟨#[]⟩ W (by omega) (by simp; omega) rfl)
    have PL := Lib.hid (brPl_length bk T [])
    have P2 := Lib.hid (PO.out (m + 98) 4 (by omega) w1 HC.out)
    have h8' := Lib.hid h8
    generalize hl : (brPl bk T []).map S = xs at *
    have LX : Hid (xs.length ≤ 8) := by show _ ≤ _; rw [← hl, List.length_map]; have := PL.out; omega
    have HSL : Hid (sls (brPl bk T []) = strs xs) := by show _ = _; rw [← hl]; simp [sls, strs]
    generalize tx T = s at *
    clear h8 hl
    go_wp2_with fail
    refine (C1.out _).mono ?_
    rintro e w2 ⟨rfl, rfl⟩
    go_wp2_with fail
    refine (P2.out).mono ?_
    rintro e w3 ⟨b, rfl, hc, hm⟩
    have HC := Lib.hid hc
    have HM := Lib.hid (HM.out.trans hm)
    clear hc hm P2
    cases b
    · go_wp2_with fail
      refine (C2.out _).mono ?_
      rintro e w4 ⟨v, rfl, ov, xv⟩
      rw [HSL.out] at ov
      have HM := Lib.hid (HM.out.trans (xv.mv g))
      have G3 := Lib.hid HC.out.lt
      have HC := Lib.hid (HC.out.ext xv)
      have NB : v.ownBlock ≠ some g := fun e => by have := ov.lo g e; have := G3.out; omega
      obtain ⟨A4, c4, rfl, _, rd⟩ := ov.reads
      rw [strs_length] at *
      by_cases h0 : xs.length = 0
      · have R := Lib.hid (REST.out w4 (HC.out.less (by omega)) HM.out)
        have hz : (xs.length : Int) = 0 := by omega
        clear rd NB xv ov
        go_wp2_with fail
        refine (R.out).mono ?_
        rintro e w5 ⟨x, rfl, hc, hm⟩
        have HC := Lib.hid hc
        have HM := Lib.hid hm
        clear hc hm R
        go_wp2_with fail
        go_ret2
        exact ⟨s, x, HS.out, rfl, HC.out, HM.out⟩
      · obtain ⟨ad, rfl, ca⟩ := rd (by omega)
        have P5 := Lib.hid (fun W (hx : Ext w4 W) => PP.out m xs.length (by have := LX.out; omega) W ((HC.out.less (by omega)).ext hx))
        have adb : ad.block ≠ g := fun e => NB (by simp [Value.ownBlock, e])
        have EN : Hid (max xs.length 1 = xs.length) := by show _ = _; omega
        have CE : Hid (∀ (k : Nat) (W : World), Mv g w4 W → k < max xs.length 1 → ∃ x, W.cell? (ad.add k) = some (.string x) ∧ (0 : Int) ≤ k ∧ (k : Int) < xs.length) := fun k W hm hk => by
          rw [EN.out] at hk
          exact ⟨xs[k], hm.cell (by rw [add_block]; exact adb) (ca k _ (strs_get xs k hk)), by omega, by omega⟩
        have xl0 : (0 : Int) < xs.length := by omega
        have xln : 0 < xs.length := by omega
        clear rd NB xv ov ca adb
        go_wp2_with fail
        rw [show Op.load 9 (Operand.tmp 29) = shy (Op.load 9 (Operand.tmp 29)) from rfl]
        go_region_held3 (fun w' => Mv g w4 w')
          (first | with_reducible exact (Ext.refl _).drew.mv g | with_reducible exact x5 | fail)
          (first
            | (go_at_call 93; (with_reducible refine (P5.out _ (Ext.refl w4).drew).mono ?_); rintro e w5 ⟨k, rfl, hk, hc, hm⟩; have x5 := ((Ext.refl w4).drew.mv g).trans hm; obtain ⟨x, cx, kx0, kx1⟩ := CE.out k w5 x5 hk)
            | fail)
        all_goals
          have HC := Lib.hid hc
          have HM := Lib.hid (HM.out.trans x5)
          clear hc hm x5 cx hk
          go_wp2_with fail
          go_ret2
          exact ⟨s, x, HS.out, rfl, HC.out, HM.out⟩
    · have R := Lib.hid (REST.out w3 (HC.out.less (by omega)) HM.out)
      go_wp2_with fail
      refine (R.out).mono ?_
      rintro e w4 ⟨x, rfl, hc, hm⟩
      have HC := Lib.hid hc
      have HM := Lib.hid hm
      clear hc hm R
      go_wp2_with fail
      go_ret2
      exact ⟨s, x, HS.out, rfl, HC.out, HM.out⟩
  · have C1 := Lib.hid (fun W => trIs_no s hT W)
    have R := Lib.hid (REST.out w1 (HC.out.less (by omega)) HM.out)
    clear hT
    go_wp2_with fail
    refine (C1.out _).mono ?_
    rintro e w2 ⟨rfl, rfl⟩
    go_wp2_with fail
    refine (R.out).mono ?_
    rintro e w4 ⟨x, rfl, hc, hm⟩
    have HC := Lib.hid hc
    have HM := Lib.hid hm
    clear hc hm R
    go_wp2_with fail
    go_ret2
    exact ⟨s, x, HS.out, rfl, HC.out, HM.out⟩

set_option maxHeartbeats 3200000 in
theorem drawRA_calls (v : Value) (n : Nat) (w : World) (h : BytesR w v n) : Calls Try.prog 109 #[v] w fun e w' => ∃ s a : ByteArray, s.size ≤ 400 ∧ e = .returned (.tuple #[.string s, .string a]) ∧ Ext w w' := by
  have c0 := Cur.new h rfl
  have X1 := Lib.hid ((Ext.refl w).alloc (.cells #[v, .int .i64 0, .int .u64 0] 88))
  have P1 := Lib.hid (rotatedC_calls false w.heap.size 100 _ (c0.less (by omega)))
  obtain ⟨A, c, rfl, _, _⟩ := h
  clear c0
  go_enter Try.func109, Try.ntmps109
  go_wp2_with fail
  generalize w.alloc (.cells #[.slice A n c, .int .i64 0, .int .u64 0] 88) = W at *
  refine (P1.out).mono ?_
  rintro e w1 ⟨s, a, hs, rfl, hc, hm⟩
  have X2 := Lib.hid (hm.ext X1.out (Nat.le_refl _))
  have HS := Lib.hid hs
  clear hc hm hs
  go_wp2_with fail
  go_ret2
  exact ⟨s, a, HS.out, rfl, X2.out⟩

theorem drawRP_calls (v : Value) (n : Nat) (w : World) (h : BytesR w v n) : Calls Try.prog 29 #[v] w fun e w' => ∃ s a : ByteArray, s.size ≤ 400 ∧ e = .returned (.tuple #[.string s, .string a]) ∧ Ext w w' := by
  have C1 := Lib.hid (drawRA_calls v n w h)
  obtain ⟨A, c, rfl, _, _⟩ := h
  go_enter Try.func29, Try.ntmps29
  go_wp2_with fail
  refine (C1.out).mono ?_
  rintro e w1 ⟨s, a, hs, rfl, hx⟩
  have HS := Lib.hid (And.intro hs hx)
  clear hs hx
  go_wp2_with fail
  go_ret2
  exact ⟨s, a, HS.out.1, rfl, HS.out.2⟩

set_option maxHeartbeats 3200000 in
theorem drawRB_calls (v : Value) (n : Nat) (w : World) (h : BytesR w v n) : Calls Try.prog 36 #[v] w fun e w' => ∃ s a : ByteArray, s.size ≤ 400 ∧ e = .returned (.tuple #[.string s, .string a]) ∧ Ext w w' := by
  have c0 := Cur.new h rfl
  have X1 := Lib.hid ((Ext.refl w).alloc (.cells #[v, .int .i64 0, .int .u64 0] 88))
  have P1 := Lib.hid (rotatedC_calls true w.heap.size 100 _ (c0.less (by omega)))
  obtain ⟨A, c, rfl, _, _⟩ := h
  clear c0
  go_enter Try.func36, Try.ntmps36
  go_wp2_with fail
  generalize w.alloc (.cells #[.slice A n c, .int .i64 0, .int .u64 0] 88) = W at *
  refine (P1.out).mono ?_
  rintro e w1 ⟨s, a, hs, rfl, hc, hm⟩
  have X2 := Lib.hid (hm.ext X1.out (Nat.le_refl _))
  have HS := Lib.hid hs
  clear hc hm hs
  go_wp2_with fail
  go_ret2
  exact ⟨s, a, HS.out, rfl, X2.out⟩
end Go.Proofs.Ytpmmajfdcicjiaa.N
