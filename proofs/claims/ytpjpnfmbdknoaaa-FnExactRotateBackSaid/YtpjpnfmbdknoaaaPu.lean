import Derived.Test.YtpjpnfmbdknoaaaBa
/- What the functions on trees compute, in plain Lean. -/
namespace Go.Proofs.Ytpjpnfmbdknoaaa.N

def rot (bk : Bool) : Tr → Option Tr
  | .leaf => none
  | .node l r =>
    if bk then match r with
      | .leaf => none
      | .node b c => some (.node (.node l b) c)
    else match l with
      | .leaf => none
      | .node a b => some (.node a (.node b r))

def turnT (bk : Bool) : List UInt8 → Tr → Option Tr
  | [], T => rot bk T
  | _ :: _, .leaf => none
  | c :: l, .node a b =>
    if c = 48 then (turnT bk l a).map (fun x => .node x b)
    else if c = 49 then (turnT bk l b).map (fun x => .node a x)
    else none

def Tr.places : Tr → List UInt8 → List (List UInt8)
  | .leaf, _ => []
  | .node l r, at_ => at_ :: (l.places (at_ ++ [48]) ++ r.places (at_ ++ [49]))

/-- The places at which a tree can be turned. -/
def Tr.turns (bk : Bool) (T : Tr) : List (List UInt8) := (T.places []).filter fun a => (turnT bk a T).isSome

theorem places_length : ∀ (T : Tr) (at_ : List UInt8), (T.places at_).length = T.carets
  | .leaf, _ => rfl
  | .node l r, at_ => by simp [Tr.places, Tr.carets, places_length l, places_length r]; omega

theorem rot_carets {bk : Bool} {T T' : Tr} (h : rot bk T = some T') : T'.carets = T.carets := by
  cases T with
  | leaf => simp [rot] at h
  | node l r =>
    cases bk
    · cases l with
      | leaf => simp [rot] at h
      | node a b => simp [rot] at h; subst h; simp only [Tr.carets]; omega
    · cases r with
      | leaf => simp [rot] at h
      | node a b => simp [rot] at h; subst h; simp only [Tr.carets]; omega
theorem turnT_carets {bk : Bool} : ∀ {a : List UInt8} {T T' : Tr}, turnT bk a T = some T' → T'.carets = T.carets
  | [], T, T', h => rot_carets h
  | _ :: _, .leaf, T', h => by simp [turnT] at h
  | c :: l, .node a b, T', h => by
    simp only [turnT] at h
    split at h
    · obtain ⟨x, hx, rfl⟩ := Option.map_eq_some_iff.1 h
      simp only [Tr.carets, turnT_carets hx]
    · split at h
      · obtain ⟨x, hx, rfl⟩ := Option.map_eq_some_iff.1 h
        simp only [Tr.carets, turnT_carets hx]
      · cases h
end Go.Proofs.Ytpjpnfmbdknoaaa.N
