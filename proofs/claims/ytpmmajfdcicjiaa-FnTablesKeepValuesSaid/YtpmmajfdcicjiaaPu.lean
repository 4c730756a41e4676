import Derived.Test.YtpmmajfdcicjiaaBa
/- What the functions on trees compute, in plain Lean. -/
namespace Go.Proofs.Ytpmmajfdcicjiaa.N

def rot (bk : Bool) : Tr → Option Tr
  | .leaf => none
  | .node l r =>
    if bk then match r with
      | .leaf => none
      | .node b c => some (.node (.node l b) c)
    else match l with
      | .leaf => none
      | .node a b => some (.node a (.node b r))

def turnT (bk : Bool) : List UInt8 → Tr → Option Tr
  | [], T => rot bk T
  | _ :: _, .leaf => none
  | c :: l, .node a b =>
    if c = 48 then (turnT bk l a).map (fun x => .node x b)
    else if c = 49 then (turnT bk l b).map (fun x => .node a x)
    else none

def Tr.places : Tr → List UInt8 → List (List UInt8)
  | .leaf, _ => []
  | .node l r, at_ => at_ :: (l.places (at_ ++ [48]) ++ r.places (at_ ++ [49]))

/-- The places at which a tree can be turned. -/
def Tr.turns (bk : Bool) (T : Tr) : List (List UInt8) := (T.places []).filter fun a => (turnT bk a T).isSome

theorem places_length : ∀ (T : Tr) (at_ : List UInt8), (T.places at_).length = T.carets
  | .leaf, _ => rfl
  | .node l r, at_ => by simp [Tr.places, Tr.carets, places_length l, places_length r]; omega

theorem rot_carets {bk : Bool} {T T' : Tr} (h : rot bk T = some T') : T'.carets = T.carets := by
  cases T with
  | leaf => simp [rot] at h
  | node l r =>
    cases bk
    · cases l with
      | leaf => simp [rot] at h
      | node a b => simp [rot] at h; subst h; simp only [Tr.carets]; omega
    · cases r with
      | leaf => simp [rot] at h
      | node a b => simp [rot] at h; subst h; simp only [Tr.carets]; omega
theorem turnT_carets {bk : Bool} : ∀ {a : List UInt8} {T T' : Tr}, turnT bk a T = some T' → T'.carets = T.carets
  | [], T, T', h => rot_carets h
  | _ :: _, .leaf, T', h => by simp [turnT] at h
  | c :: l, .node a b, T', h => by
    simp only [turnT] at h
    split at h
    · obtain ⟨x, hx, rfl⟩ := Option.map_eq_some_iff.1 h
      simp only [Tr.carets, turnT_carets hx]
    · split at h
      · obtain ⟨x, hx, rfl⟩ := Option.map_eq_some_iff.1 h
        simp only [Tr.carets, turnT_carets hx]
      · cases h

/-- The reference's list of the same places. -/
def brPl (bk : Bool) : Tr → List UInt8 → List (List UInt8)
  | .leaf, _ => []
  | .node l r, a => ((if (rot bk (.node l r)).isSome then [a] else []) ++ brPl bk l (a ++ [48])) ++ brPl bk r (a ++ [49])

theorem places_map : ∀ (T : Tr) (a b : List UInt8), T.places (a ++ b) = (T.places b).map (a ++ ·)
  | .leaf, _, _ => rfl
  | .node l r, a, b => by
    simp only [Tr.places, List.map_cons, List.map_append, List.append_assoc]
    rw [places_map l a (b ++ [48]), places_map r a (b ++ [49])]
theorem turns_node (bk : Bool) (l r : Tr) : (Tr.node l r).turns bk = (if (rot bk (.node l r)).isSome then [[]] else []) ++ ((l.turns bk).map (48 :: ·) ++ (r.turns bk).map (49 :: ·)) := by
  have h1 : l.places [48] = (l.places []).map (48 :: ·) := by have := places_map l [48] []; simpa using this
  have h2 : r.places [49] = (r.places []).map (49 :: ·) := by have := places_map r [49] []; simpa using this
  simp only [Tr.turns, Tr.places, List.nil_append, List.filter_cons, List.filter_append, h1, h2, List.filter_map, turnT]
  have e1 : ((fun a => (turnT bk a (l.node r)).isSome) ∘ fun x => 48 :: x) = fun a => (turnT bk a l).isSome := by
    funext a; simp [turnT, Function.comp]
  have e2 : ((fun a => (turnT bk a (l.node r)).isSome) ∘ fun x => 49 :: x) = fun a => (turnT bk a r).isSome := by
    funext a; simp [turnT, Function.comp]
  rw [e1, e2]
  all_goals (split <;> simp)
theorem brPl_turns (bk : Bool) : ∀ (T : Tr) (a : List UInt8), brPl bk T a = (T.turns bk).map (a ++ ·)
  | .leaf, _ => rfl
  | .node l r, a => by
    rw [turns_node, brPl, brPl_turns bk l, brPl_turns bk r]
    simp only [List.map_append, List.map_map, List.append_assoc]
    have h : (if (rot bk (l.node r)).isSome then [a] else []) = List.map (fun x => a ++ x) (if (rot bk (l.node r)).isSome then [[]] else []) := by split <;> simp
    rw [h]
    simp [Function.comp_def]
theorem brPl_nil (bk : Bool) (T : Tr) : brPl bk T [] = T.turns bk := by rw [brPl_turns]; simp
theorem turns_length (bk : Bool) (T : Tr) : (T.turns bk).length ≤ T.carets := by
  rw [← places_length T []]; exact List.length_filter_le _ _
theorem brPl_length (bk : Bool) (T : Tr) (a : List UInt8) : (brPl bk T a).length ≤ T.carets := by
  rw [brPl_turns, List.length_map]; exact turns_length bk T

/-! ### The chain to the right comb -/
def Tr.phi : Tr → Nat
  | .leaf => 0
  | .node l r => l.phi + r.phi + l.carets
theorem rot_phi {T T' : Tr} (h : rot false T = some T') : T'.phi < T.phi := by
  cases T with
  | leaf => simp [rot] at h
  | node l r =>
    cases l with
    | leaf => simp [rot] at h
    | node a b => simp [rot] at h; subst h; simp only [Tr.phi, Tr.carets]; omega
theorem turnT_phi : ∀ {a : List UInt8} {T T' : Tr}, turnT false a T = some T' → T'.phi < T.phi
  | [], T, T', h => rot_phi h
  | _ :: _, .leaf, T', h => by simp [turnT] at h
  | c :: l, .node a b, T', h => by
    simp only [turnT] at h
    split at h
    · obtain ⟨x, hx, rfl⟩ := Option.map_eq_some_iff.1 h
      have := turnT_phi hx; have := turnT_carets hx
      simp only [Tr.phi]; omega
    · split at h
      · obtain ⟨x, hx, rfl⟩ := Option.map_eq_some_iff.1 h
        have := turnT_phi hx
        simp only [Tr.phi]; omega
      · cases h
theorem phi_le : ∀ T : Tr, T.phi ≤ T.carets * T.carets
  | .leaf => Nat.le_refl _
  | .node l r => by
    have h1 := phi_le l; have h2 := phi_le r
    simp only [Tr.phi, Tr.carets]
    have : (1 + l.carets + r.carets) * (1 + l.carets + r.carets) = l.carets * l.carets + r.carets * r.carets + 2 * (l.carets * r.carets) + 2 * l.carets + 2 * r.carets + 1 := by
      simp only [Nat.add_mul, Nat.mul_add, Nat.mul_comm r.carets l.carets]; omega
    omega
/-- One step to the right comb. -/
def Tr.step (T : Tr) : Option Tr := match T.turns false with
  | [] => none
  | a :: _ => turnT false a T
theorem step_cons {T : Tr} {a : List UInt8} {l : List (List UInt8)} (h : T.turns false = a :: l) : ∃ T', turnT false a T = some T' ∧ T.step = some T' := by
  have hm : a ∈ T.turns false := by rw [h]; exact List.mem_cons_self
  have := (List.mem_filter.1 hm).2
  obtain ⟨T', hT⟩ := Option.isSome_iff_exists.1 this
  exact ⟨T', hT, by simp only [Tr.step, h, hT]⟩
theorem step_phi {T T' : Tr} (h : T.step = some T') : T'.phi < T.phi ∧ T'.carets = T.carets := by
  unfold Tr.step at h
  split at h
  · cases h
  · exact ⟨turnT_phi h, turnT_carets h⟩
def chainF : Nat → Tr → List Tr
  | 0, T => [T]
  | n + 1, T => T :: (match T.step with
    | none => []
    | some T' => chainF n T')
theorem chainF_more : ∀ (n m : Nat) (T : Tr), T.phi ≤ n → T.phi ≤ m → chainF n T = chainF m T := by
  intro n
  induction n with
  | zero =>
    intro m T h1 _
    cases m with
    | zero => rfl
    | succ m =>
      simp only [chainF]
      cases hs : T.step with
      | none => rfl
      | some T' => have := (step_phi hs).1; omega
  | succ n ih =>
    intro m T h1 h2
    cases m with
    | zero =>
      simp only [chainF]
      cases hs : T.step with
      | none => rfl
      | some T' => have := (step_phi hs).1; omega
    | succ m =>
      simp only [chainF]
      cases hs : T.step with
      | none => rfl
      | some T' => have := (step_phi hs).1; simp only; rw [ih m T' (by omega) (by omega)]
def Tr.chain (T : Tr) : List Tr := chainF T.phi T
theorem chain_none {T : Tr} (h : T.turns false = []) : T.chain = [T] := by
  have hs : T.step = none := by simp only [Tr.step, h]
  unfold Tr.chain
  cases T.phi with
  | zero => rfl
  | succ n => simp only [chainF, hs]
theorem chain_step {T T' : Tr} (h : T.step = some T') : T.chain = T :: T'.chain := by
  have hp := (step_phi h).1
  unfold Tr.chain
  obtain ⟨n, hn⟩ : ∃ n, T.phi = n + 1 := ⟨T.phi - 1, by omega⟩
  rw [hn]
  simp only [chainF, h]
  rw [chainF_more n T'.phi T' (by omega) (Nat.le_refl _)]
theorem chainF_length : ∀ (n : Nat) (T : Tr), (chainF n T).length ≤ n + 1
  | 0, _ => Nat.le_refl _
  | n + 1, T => by
    simp only [chainF]
    cases T.step with
    | none => simp
    | some T' => simp only [List.length_cons]; have := chainF_length n T'; omega
theorem chainF_carets : ∀ (n : Nat) (T U : Tr), U ∈ chainF n T → U.carets = T.carets
  | 0, T, U, h => by simp [chainF] at h; rw [h]
  | n + 1, T, U, h => by
    simp only [chainF, List.mem_cons] at h
    rcases h with rfl | h
    · rfl
    · cases hs : T.step with
      | none => rw [hs] at h; cases h
      | some T' => rw [hs] at h; rw [chainF_carets n T' U h, (step_phi hs).2]
theorem chain_carets {T U : Tr} (h : U ∈ T.chain) : U.carets = T.carets := chainF_carets _ _ _ h
theorem chain_length (T : Tr) : T.chain.length ≤ T.carets * T.carets + 1 := by
  have := chainF_length T.phi T; have := phi_le T; unfold Tr.chain; omega
theorem filter_take {α : Type} (p : α → Bool) (l : List α) (k : Nat) (h : k < l.length) : (l.take (k + 1)).filter p = (l.take k).filter p ++ if p l[k] then [l[k]] else [] := by
  rw [List.take_add_one, List.getElem?_eq_getElem h, List.filter_append]
  simp only [Option.toList, List.filter_cons, List.filter_nil]
end Go.Proofs.Ytpmmajfdcicjiaa.N
