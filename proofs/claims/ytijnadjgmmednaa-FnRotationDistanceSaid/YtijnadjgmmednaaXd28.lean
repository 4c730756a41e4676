import Derived.Test.YtijnadjgmmednaaXd15
import Derived.Test.YtijnadjgmmednaaXd26
/- A part of the proof: lemmas that later parts use. -/
set_option linter.unusedVariables false
set_option linter.unusedSimpArgs false
namespace Go.Proofs.Ytijnadjgmmednaa.N
def Steps (l : List Tr) : Prop := ∀ (i : Nat) (X Y : Tr), l[i]? = some X → l[i + 1]? = some Y → Y ∈ near0 X
theorem Steps.tail {a : Tr} {l : List Tr} (h : Steps (a :: l)) : Steps l := fun i X Y h1 h2 => h (i + 1) X Y (by simpa using h1) (by simpa using h2)
theorem Steps.cons {a : Tr} {l : List Tr} (h : Steps l) (ha : ∀ Y, l[0]? = some Y → Y ∈ near0 a) : Steps (a :: l) := fun i X Y h1 h2 => by
  cases i with
  | zero => have : a = X := by simpa using h1
            subst this; exact ha Y (by simpa using h2)
  | succ i => exact h i X Y (by simpa using h1) (by simpa using h2)
theorem Steps.append : ∀ {l m : List Tr}, Steps l → Steps m → (∀ X Y, l.getLast? = some X → m[0]? = some Y → Y ∈ near0 X) → Steps (l ++ m)
  | [], m, _, hm, _ => hm
  | [a], m, _, hm, h => Steps.cons hm (fun Y hY => h a Y rfl hY)
  | a :: b :: l, m, hl, hm, h => Steps.cons (Steps.append hl.tail hm (fun X Y h1 h2 => h X Y (by rw [List.getLast?_cons_cons]; exact h1) h2)) (fun Y hY => hl 0 a Y rfl (by simpa using hY))
theorem Steps.snoc {l : List Tr} {b : Tr} (h : Steps l) (hb : ∀ X, l.getLast? = some X → b ∈ near0 X) : Steps (l ++ [b]) :=
  h.append (fun i X Y h1 h2 => by simp at h2) (fun X Y h1 h2 => by
    have : b = Y := by simpa using h2
    subst this; exact hb X h1)
theorem Steps.reverse : ∀ {l : List Tr}, Steps l → Steps l.reverse
  | [], h => h
  | a :: l, h => by
    rw [List.reverse_cons]
    refine h.tail.reverse.snoc (fun X hX => ?_)
    rw [List.getLast?_reverse, List.head?_eq_getElem?] at hX
    exact near_symm (h 0 a X rfl (by simpa using hX))
theorem Steps.way : ∀ {l : List Tr} {A B : Tr}, Steps l → l[0]? = some A → l.getLast? = some B → Way (l.length - 1) A B
  | [], A, B, _, h, _ => by simp at h
  | [a], A, B, _, h1, h2 => by
    have e1 : a = A := by simpa using h1
    have e2 : a = B := by simpa using h2
    subst e1; subst e2; rfl
  | a :: b :: l, A, B, h, h1, h2 => by
    have e1 : a = A := by simpa using h1
    subst e1
    have h3 := Steps.way (l := b :: l) (A := b) (B := B) h.tail rfl (by rw [List.getLast?_cons_cons] at h2; exact h2)
    have h4 := (Way.one (h 0 a b rfl rfl)).trans h3
    simp only [List.length_cons] at h4 ⊢
    rwa [show 1 + (l.length + 1 - 1) = l.length + 1 + 1 - 1 by omega] at h4
theorem chain_steps (T : Tr) : Steps T.chain := chain_near T
theorem last_split {l : List Tr} {x : Tr} (h : l.getLast? = some x) : l = l.take (l.length - 1) ++ [x] := by
  obtain ⟨m, rfl⟩ := List.getLast?_eq_some_iff.1 h
  simp
theorem bet_eq {A B : Tr} (hc : A.carets = B.carets) : bet A B = A.chain.take (A.chain.length - 1) ++ B.chain.reverse := by
  have h1 := last_split (chain_last A)
  have h2 := last_split (chain_last B)
  unfold bet
  generalize A.chain.take (A.chain.length - 1) = a at *
  generalize B.chain.take (B.chain.length - 1) = b at *
  rw [h1, h2, hc, List.reverse_append]
  simp
theorem bet_steps {A B : Tr} (hc : A.carets = B.carets) : Steps (bet A B) := by
  unfold bet
  refine (chain_steps A).append ?_ (fun X Y h1 h2 => ?_)
  · have h := last_split (chain_last B)
    have h2 := (chain_steps B).reverse
    rw [h, List.reverse_append] at h2
    exact h2.tail
  · rw [chain_last] at h1
    obtain rfl := Option.some.inj h1
    have h := last_split (chain_last B)
    have h3 := (chain_steps B).reverse
    rw [h, List.reverse_append] at h3
    rw [hc]
    exact h3 0 _ Y rfl (by simpa using h2)
theorem bet_head (A B : Tr) : (bet A B)[0]? = some A := by
  unfold bet
  rw [List.getElem?_append_left (by have := (List.getElem?_eq_some_iff.1 (chain_head A)).1; omega)]
  exact chain_head A
theorem bet_last {A B : Tr} (hc : A.carets = B.carets) : (bet A B).getLast? = some B := by
  rw [bet_eq hc, List.getLast?_append, List.getLast?_reverse, List.head?_eq_getElem?, chain_head]
  rfl
theorem bet_dist {A B : Tr} {d : Nat} (hc : A.carets = B.carets) (hd : Dist A B d) : d ≤ (bet A B).length - 1 := hd.2 _ ((bet_steps hc).way (bet_head A B) (bet_last hc))
theorem bet_carets {A B U : Tr} (hc : A.carets = B.carets) (h : U ∈ bet A B) : U.carets = A.carets := by
  unfold bet at h
  rcases List.mem_append.1 h with h | h
  · exact chain_carets h
  · rw [List.mem_reverse] at h
    rw [hc]; exact chain_carets (List.mem_of_mem_take h)
theorem act_comp {X Y Z : Tr} (h1 : X.carets = Y.carets) (h2 : Y.carets = Z.carets) (s : Str) : act (Y, Z) (act (X, Y) s) = act (X, Z) s := by
  have e := adr_find X s
  have hk := find_le X s
  generalize find X s = f at e hk
  rw [← e, act_at (X, Y) f.1 hk, act_at (Y, Z) f.1 (by show f.1 ≤ Y.carets; omega), act_at (X, Z) f.1 hk]
theorem act_self (X : Tr) (s : Str) : act (X, X) s = s := by
  have e := adr_find X s
  have hk := find_le X s
  generalize find X s = f at e hk
  rw [← e, act_at (X, X) f.1 hk]
end Go.Proofs.Ytijnadjgmmednaa.N
