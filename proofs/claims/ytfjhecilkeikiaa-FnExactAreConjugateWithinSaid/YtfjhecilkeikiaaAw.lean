import Derived.Test.YtfjhecilkeikiaaBa
import Derived.Test.YtfjhecilkeikiaaPu
import Derived.Test.YtfjhecilkeikiaaPp
import Derived.Test.YtfjhecilkeikiaaPg
import Derived.Test.YtfjhecilkeikiaaPh
import Derived.Test.YtfjhecilkeikiaaTk
import Derived.Test.YtfjhecilkeikiaaCl
import Derived.Test.YtfjhecilkeikiaaAc
/- Conjugates by words: letter by letter and at once; words that are not reduced add nothing. Plain Lean. -/
namespace Go.Proofs.Ytfjhecilkeikiaa.N
set_option linter.unusedVariables false
set_option linter.unusedSimpArgs false

theorem Bal.conj {p q : Tr × Tr} (hp : Bal p) (hq : Bal q) : Bal (conj p q) := (conj_carets hp hq).1
theorem act_conj {p q : Tr × Tr} (hp : Bal p) (hq : Bal q) (s : Str) : act (conj p q) s = act q (act p (act (inv q) s)) := by
  unfold conj
  show act (mul (mul (inv q) p) q) s = _
  rw [act_mul (Bal.mul hq.inv hp) hq, act_mul hq.inv hp]
theorem conj_red (p q : Tr × Tr) : bothT (conj p q).1 (conj p q).2 = [] := red_both _
theorem letP_bal {n : Int} (h : n ≠ 0) : Bal (letP n) := by have := letP_carets h; unfold Bal; omega
theorem letP_inv {n : Int} (h : n ≠ 0) : letP (-n) = inv (letP n) := by
  unfold letP inv
  by_cases h0 : n < 0
  · rw [if_neg (by omega), if_pos h0, Int.natAbs_neg]
  · rw [if_pos (by omega), if_neg h0, Int.natAbs_neg]
def NZ (ws : List Int) : Prop := ∀ x ∈ ws, x ≠ 0
theorem NZ.app {a b : List Int} (h : NZ (a ++ b)) : NZ a ∧ NZ b := ⟨fun x hx => h x (List.mem_append_left _ hx), fun x hx => h x (List.mem_append_right _ hx)⟩
theorem NZ.of {a b : List Int} (h : NZ a) (k : NZ b) : NZ (a ++ b) := fun x hx => (List.mem_append.1 hx).elim (h x) (k x)

/-- The pair of a word, reduced. -/
def pairW (ws : List Int) : Tr × Tr := ws.foldl (fun x n => mul x (letP n)) one
/-- The conjugate letter by letter. -/
def conjF (y : Tr × Tr) (ws : List Int) : Tr × Tr := ws.foldl (fun x n => conj x (letP n)) y
theorem pairW_snoc (ws : List Int) (x : Int) : pairW (ws ++ [x]) = mul (pairW ws) (letP x) := by simp [pairW]
theorem conjF_snoc (y : Tr × Tr) (ws : List Int) (x : Int) : conjF y (ws ++ [x]) = conj (conjF y ws) (letP x) := by simp [conjF]
theorem conjF_app (y : Tr × Tr) (a b : List Int) : conjF y (a ++ b) = conjF (conjF y a) b := by simp [conjF]
theorem pairW_bal' : ∀ (n : Nat) (ws : List Int), ws.length = n → NZ ws → Bal (pairW ws) ∧ bothT (pairW ws).1 (pairW ws).2 = [] := by
  intro n
  induction n with
  | zero => intro ws h _; obtain rfl := List.length_eq_zero_iff.1 h; exact ⟨rfl, rfl⟩
  | succ n ih =>
    intro ws h hz
    obtain ⟨u, x, rfl⟩ : ∃ u x, ws = u ++ [x] := ⟨ws.dropLast, ws.getLast (by intro e; subst e; simp at h), (List.dropLast_concat_getLast _).symm⟩
    rw [pairW_snoc]
    obtain ⟨hu, hx⟩ := hz.app
    exact ⟨(ih u (by simp at h; omega) hu).1.mul (letP_bal (hx x (by simp))), red_both _⟩
theorem pairW_bal {ws : List Int} (h : NZ ws) : Bal (pairW ws) := (pairW_bal' _ ws rfl h).1
theorem pairW_red {ws : List Int} (h : NZ ws) : bothT (pairW ws).1 (pairW ws).2 = [] := (pairW_bal' _ ws rfl h).2
def actW (ws : List Int) (s : Str) : Str := ws.foldl (fun t n => act (letP n) t) s
theorem act_pairW : ∀ (n : Nat) (ws : List Int), ws.length = n → NZ ws → ∀ s, act (pairW ws) s = actW ws s := by
  intro n
  induction n with
  | zero => intro ws h _ s; obtain rfl := List.length_eq_zero_iff.1 h; rfl
  | succ n ih =>
    intro ws h hz s
    obtain ⟨u, x, rfl⟩ : ∃ u x, ws = u ++ [x] := ⟨ws.dropLast, ws.getLast (by intro e; subst e; simp at h), (List.dropLast_concat_getLast _).symm⟩
    obtain ⟨hu, hx⟩ := hz.app
    rw [pairW_snoc, act_mul (pairW_bal hu) (letP_bal (hx x (by simp))), ih u (by simp at h; omega) hu]
    simp [actW]
theorem actW_app (a b : List Int) (s : Str) : actW (a ++ b) s = actW b (actW a s) := by simp [actW]
/-- A letter and its inverse beside it do nothing. -/
theorem pairW_cancel {u v : List Int} {x : Int} (h : NZ (u ++ ([x, -x] ++ v))) : pairW (u ++ ([x, -x] ++ v)) = pairW (u ++ v) := by
  obtain ⟨hu, h2⟩ := h.app
  obtain ⟨hx, hv⟩ := h2.app
  have x0 : x ≠ 0 := hx x (by simp)
  refine pair_ext (pairW_bal h) (pairW_bal (hu.of hv)) (pairW_red h) (pairW_red (hu.of hv)) fun s => ?_
  rw [act_pairW _ _ rfl h, act_pairW _ _ rfl (hu.of hv), actW_app, actW_app, actW_app]
  congr 1
  show act (letP (-x)) (act (letP x) _) = _
  rw [letP_inv x0]
  exact act_inv (letP_bal x0) _
theorem conjF_pairW' {p : Tr × Tr} (hp : Bal p) : ∀ (n : Nat) (ws : List Int), ws.length = n → NZ ws → conjF (red p) ws = conj p (pairW ws) := by
  intro n
  induction n with
  | zero =>
    intro ws h _
    obtain rfl := List.length_eq_zero_iff.1 h
    refine pair_ext hp.red (hp.conj Bal.one) (red_both _) (conj_red _ _) fun s => ?_
    show act (red p) s = act (conj p one) s
    rw [act_conj hp Bal.one, act_red hp, act_one]; rfl
  | succ n ih =>
    intro ws h hz
    obtain ⟨u, x, rfl⟩ : ∃ u x, ws = u ++ [x] := ⟨ws.dropLast, ws.getLast (by intro e; subst e; simp at h), (List.dropLast_concat_getLast _).symm⟩
    obtain ⟨hu, hx⟩ := hz.app
    have x0 := letP_bal (hx x (by simp))
    have bu := pairW_bal hu
    rw [conjF_snoc, ih u (by simp at h; omega) hu, pairW_snoc]
    refine pair_ext ((hp.conj bu).conj x0) (hp.conj (bu.mul x0)) (conj_red _ _) (conj_red _ _) fun s => ?_
    rw [act_conj (hp.conj bu) x0, act_conj hp bu, act_conj hp (bu.mul x0), act_mul bu x0]
    congr 3
    refine act_inj (bu.mul x0) ?_
    rw [act_inv' (bu.mul x0), act_mul bu x0, act_inv' bu, act_inv' x0]
theorem conjF_pairW {p : Tr × Tr} (hp : Bal p) {ws : List Int} (hz : NZ ws) : conjF (red p) ws = conj p (pairW ws) := conjF_pairW' hp _ ws rfl hz

/-! ### All words, and the reduced ones -/
def lts : List Int := [1, -1, 2, -2]
def allW : Nat → List (List Int)
  | 0 => [[]]
  | n + 1 => lts.flatMap fun x => (allW n).map (x :: ·)
theorem allW_snoc : ∀ n, allW (n + 1) = (allW n).flatMap fun w => lts.map fun x => w ++ [x]
  | 0 => rfl
  | n + 1 => by
    have ih := allW_snoc n
    have e : allW (n + 2) = lts.flatMap fun x => (allW (n + 1)).map (x :: ·) := rfl
    have e2 : ((allW (n + 1)).flatMap fun w => lts.map fun x => w ++ [x]) = (lts.flatMap fun x => (allW n).map (x :: ·)).flatMap fun w => lts.map fun x => w ++ [x] := rfl
    rw [e, e2, ih, List.flatMap_assoc]
    congr 1
    funext x
    rw [List.map_flatMap, List.flatMap_map]
    congr 1
theorem mem_allW : ∀ (n : Nat) (w : List Int), w ∈ allW n ↔ w.length = n ∧ ∀ x ∈ w, x ∈ lts
  | 0, w => by
    simp only [allW, List.mem_singleton]
    constructor
    · rintro rfl; exact ⟨rfl, fun x hx => by cases hx⟩
    · intro h; exact List.length_eq_zero_iff.1 h.1
  | n + 1, w => by
    simp only [allW, List.mem_flatMap, List.mem_map]
    constructor
    · rintro ⟨x, hx, v, hv, rfl⟩
      obtain ⟨h1, h2⟩ := (mem_allW n v).1 hv
      exact ⟨by simp [h1], fun y hy => by rcases List.mem_cons.1 hy with rfl | hy; exact hx; exact h2 y hy⟩
    · rintro ⟨h1, h2⟩
      cases w with
      | nil => simp at h1
      | cons x v => exact ⟨x, h2 x List.mem_cons_self, v, (mem_allW n v).2 ⟨by simpa using h1, fun y hy => h2 y (List.mem_cons_of_mem _ hy)⟩, rfl⟩
theorem lts_nz {x : Int} (h : x ∈ lts) : x ≠ 0 ∧ -x ∈ lts := by
  unfold lts at *
  simp at h ⊢
  omega
theorem allW_nz {n : Nat} {w : List Int} (h : w ∈ allW n) : NZ w := fun x hx => (lts_nz (((mem_allW n w).1 h).2 x hx)).1
/-- Whether a letter may stand behind a word. -/
def okL (w : List Int) (x : Int) : Bool := w.getLast? != some (-x)
def redWd : Nat → List (List Int)
  | 0 => [[]]
  | n + 1 => (redWd n).flatMap fun w => (lts.filter (okL w)).map fun x => w ++ [x]
/-- Whether no letter stands beside its inverse. -/
def isRd : List Int → Bool
  | [] => true
  | [_] => true
  | x :: y :: l => (x != -y) && isRd (y :: l)
theorem isRd_snoc : ∀ (w : List Int) (x : Int), isRd (w ++ [x]) = (isRd w && okL w x)
  | [], x => by simp [isRd, okL]
  | [y], x => by
    simp only [List.cons_append, List.nil_append, isRd, okL, List.getLast?_singleton, Bool.and_true, Bool.true_and]
    rfl
  | y :: z :: l, x => by
    have ih := isRd_snoc (z :: l) x
    simp only [List.cons_append] at ih ⊢
    simp only [isRd]
    rw [ih, Bool.and_assoc]
    congr 2
theorem redWd_step : ∀ (L : List (List Int)), ((L.filter isRd).flatMap fun w => (lts.filter (okL w)).map fun x => w ++ [x]) = (L.flatMap fun w => lts.map fun x => w ++ [x]).filter isRd
  | [] => rfl
  | w :: L => by
    have ih := redWd_step L
    rw [List.flatMap_cons, List.filter_append, ← ih, List.filter_map]
    have e : (isRd ∘ fun x => w ++ [x]) = fun x => isRd w && okL w x := by funext x; exact isRd_snoc w x
    rw [e]
    cases h : isRd w with
    | true =>
      rw [List.filter_cons_of_pos h, List.flatMap_cons]
      simp only [Bool.true_and]
    | false =>
      rw [List.filter_cons_of_neg (by rw [h]; exact Bool.false_ne_true)]
      simp
theorem redWd_eq : ∀ n, redWd n = (allW n).filter isRd
  | 0 => rfl
  | n + 1 => by rw [allW_snoc, redWd, redWd_eq n, redWd_step]
theorem not_rd : ∀ (w : List Int), isRd w = false → ∃ u x v, w = u ++ ([x, -x] ++ v)
  | [], h => by simp [isRd] at h
  | [_], h => by simp [isRd] at h
  | x :: y :: l, h => by
    simp only [isRd, Bool.and_eq_false_iff] at h
    rcases h with h | h
    · refine ⟨[], x, l, ?_⟩
      have : x = -y := by simpa using h
      simp; omega
    · obtain ⟨u, z, v, e⟩ := not_rd (y :: l) h
      exact ⟨x :: u, z, v, by rw [e]; rfl⟩
/-- A word that is not reduced has a shorter one of the same pair. -/
theorem shorter {n : Nat} {w : List Int} (h : w ∈ allW n) (hr : isRd w = false) : ∃ m v, m + 2 = n ∧ v ∈ allW m ∧ pairW v = pairW w := by
  obtain ⟨u, x, v, rfl⟩ := not_rd w hr
  obtain ⟨h1, h2⟩ := (mem_allW _ _).1 h
  refine ⟨u.length + v.length, u ++ v, by simp at h1; omega, (mem_allW _ _).2 ⟨by simp, fun y hy => h2 y ?_⟩, (pairW_cancel (allW_nz h)).symm⟩
  simp at hy ⊢
  rcases hy with hy | hy
  · exact .inl hy
  · exact .inr (.inr (.inr hy))
theorem reduced_word : ∀ (n : Nat) (w : List Int), w ∈ allW n → ∃ m v, m ≤ n ∧ v ∈ redWd m ∧ pairW v = pairW w := by
  intro n
  induction n using Nat.strongRecOn with
  | ind n ih =>
    intro w h
    cases hr : isRd w with
    | true => exact ⟨n, w, Nat.le_refl _, by rw [redWd_eq, List.mem_filter]; exact ⟨h, hr⟩, rfl⟩
    | false =>
      obtain ⟨m, v, e, hv, hp⟩ := shorter h hr
      obtain ⟨k, u, hk, hu, hq⟩ := ih m (by omega) v hv
      exact ⟨k, u, by omega, hu, hq.trans hp⟩

/-! ### The first word that fits -/
theorem find_filter {α : Type} (P q : α → Bool) : ∀ (l : List α), (∀ w ∈ l, P w = true → q w = true) → (l.filter q).find? P = l.find? P
  | [], _ => rfl
  | a :: l, h => by
    have ih := find_filter P q l fun w hw => h w (List.mem_cons_of_mem _ hw)
    cases hq : q a with
    | true => rw [List.filter_cons_of_pos hq, List.find?_cons, List.find?_cons, ih]
    | false =>
      rw [List.filter_cons_of_neg (by rw [hq]; exact Bool.false_ne_true), ih, List.find?_cons]
      cases hP : P a with
      | true => have := h a List.mem_cons_self hP; rw [hq] at this; cases this
      | false => rfl
/-- The first word of the lists n, n + 1, .. of which k are searched. -/
def firstW (W : Nat → List (List Int)) (P : List Int → Bool) : Nat → Nat → Option (List Int)
  | _, 0 => none
  | n, k + 1 => match (W n).find? P with
    | some w => some w
    | none => firstW W P (n + 1) k
theorem first_same (P : List Int → Bool) (hP : ∀ v w, pairW v = pairW w → P v = P w) : ∀ (k n : Nat), (∀ m, m < n → (allW m).find? P = none) → firstW redWd P n k = firstW allW P n k
  | 0, n, _ => rfl
  | k + 1, n, h => by
    have e : (redWd n).find? P = (allW n).find? P := by
      rw [redWd_eq]
      refine find_filter P isRd _ fun w hw hp => ?_
      cases hr : isRd w with
      | true => rfl
      | false =>
        obtain ⟨m, v, hm, hv, he⟩ := shorter hw hr
        have := List.find?_eq_none.1 (h m (by omega)) v hv
        rw [hP v w he, hp] at this
        exact absurd rfl this
    simp only [firstW]
    rw [e]
    cases hf : (allW n).find? P with
    | some w => rfl
    | none =>
      refine first_same P hP k (n + 1) fun m hm => ?_
      by_cases h1 : m < n
      · exact h m h1
      · rw [show m = n by omega]; exact hf

/-! ### The least one -/
section
variable {α : Type} (less : α → α → Bool)
def leastL (b : α) (l : List α) : α := l.foldl (fun b y => if less y b then y else b) b
theorem least_spec (irr : ∀ a, less a a = false) (nt : ∀ a b c, less a b = false → less b c = false → less a c = false) (asym : ∀ a b, less a b = true → less b a = false) : ∀ (l : List α) (b : α), leastL less b l ∈ b :: l ∧ ∀ y ∈ b :: l, less y (leastL less b l) = false
  | [], b => ⟨List.mem_cons_self, fun y hy => by simp at hy; subst hy; exact irr _⟩
  | a :: l, b => by
    have ih := least_spec irr nt asym l (if less a b then a else b)
    have e : leastL less b (a :: l) = leastL less (if less a b then a else b) l := rfl
    rw [e]
    obtain ⟨h1, h2⟩ := ih
    generalize leastL less (if less a b then a else b) l = m at *
    have h3 := h2 _ List.mem_cons_self
    constructor
    · rcases List.mem_cons.1 h1 with h | h
      · rw [h]; split
        · exact List.mem_cons_of_mem _ List.mem_cons_self
        · exact List.mem_cons_self
      · exact List.mem_cons_of_mem _ (List.mem_cons_of_mem _ h)
    · intro y hy
      rcases List.mem_cons.1 hy with rfl | hy
      · cases hab : less a y with
        | true => rw [hab] at h3; simp only [if_true] at h3; exact nt _ a _ (asym _ _ hab) h3
        | false => rw [hab] at h3; simpa using h3
      · rcases List.mem_cons.1 hy with rfl | hy
        · cases hab : less y b with
          | true => rw [hab] at h3; simpa using h3
          | false => rw [hab] at h3; exact nt _ b _ hab (by simpa using h3)
        · exact h2 y (List.mem_cons_of_mem _ hy)
theorem least_same (irr : ∀ a, less a a = false) (nt : ∀ a b c, less a b = false → less b c = false → less a c = false) (asym : ∀ a b, less a b = true → less b a = false) (tot : ∀ a b, less a b = false → less b a = false → a = b)
    (b : α) (l m : List α) (h1 : ∀ y ∈ l, y ∈ b :: m) (h2 : ∀ y ∈ m, y ∈ b :: l) : leastL less b l = leastL less b m := by
  obtain ⟨a1, a2⟩ := least_spec less irr nt asym l b
  obtain ⟨c1, c2⟩ := least_spec less irr nt asym m b
  refine tot _ _ (c2 _ ?_) (a2 _ ?_)
  · rcases List.mem_cons.1 a1 with h | h
    · rw [h]; exact List.mem_cons_self
    · exact h1 _ h
  · rcases List.mem_cons.1 c1 with h | h
    · rw [h]; exact List.mem_cons_self
    · exact h2 _ h
end
end Go.Proofs.Ytfjhecilkeikiaa.N
