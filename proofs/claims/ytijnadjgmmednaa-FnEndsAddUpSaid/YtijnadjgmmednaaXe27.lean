import Derived.Test.YtijnadjgmmednaaXe9
import Derived.Test.YtijnadjgmmednaaXe10
import Derived.Test.YtijnadjgmmednaaXe20
/- A part of the proof: lemmas that later parts use. -/
set_option linter.unusedVariables false
set_option linter.unusedSimpArgs false
namespace Go.Proofs.Ytijnadjgmmednaa.N
def Steps (l : List Tr) : Prop := ∀ (i : Nat) (X Y : Tr), l[i]? = some X → l[i + 1]? = some Y → Y ∈ near0 X
theorem Steps.tail {a : Tr} {l : List Tr} (h : Steps (a :: l)) : Steps l := fun i X Y h1 h2 => h (i + 1) X Y (by simpa using h1) (by simpa using h2)
theorem Steps.cons {a : Tr} {l : List Tr} (h : Steps l) (ha : ∀ Y, l[0]? = some Y → Y ∈ near0 a) : Steps (a :: l) := fun i X Y h1 h2 => by
  cases i with
  | zero => have : a = X := by simpa using h1
            subst this; exact ha Y (by simpa using h2)
  | succ i => exact h i X Y (by simpa using h1) (by simpa using h2)
theorem Steps.append : ∀ {l m : List Tr}, Steps l → Steps m → (∀ X Y, l.getLast? = some X → m[0]? = some Y → Y ∈ near0 X) → Steps (l ++ m)
  | [], m, _, hm, _ => hm
  | [a], m, _, hm, h => Steps.cons hm (fun Y hY => h a Y rfl hY)
  | a :: b :: l, m, hl, hm, h => Steps.cons (Steps.append hl.tail hm (fun X Y h1 h2 => h X Y (by rw [List.getLast?_cons_cons]; exact h1) h2)) (fun Y hY => hl 0 a Y rfl (by simpa using hY))
theorem Steps.snoc {l : List Tr} {b : Tr} (h : Steps l) (hb : ∀ X, l.getLast? = some X → b ∈ near0 X) : Steps (l ++ [b]) :=
  h.append (fun i X Y h1 h2 => by simp at h2) (fun X Y h1 h2 => by
    have : b = Y := by simpa using h2
    subst this; exact hb X h1)
theorem Steps.reverse : ∀ {l : List Tr}, Steps l → Steps l.reverse
  | [], h => h
  | a :: l, h => by
    rw [List.reverse_cons]
    refine h.tail.reverse.snoc (fun X hX => ?_)
    rw [List.getLast?_reverse, List.head?_eq_getElem?] at hX
    exact near_symm (h 0 a X rfl (by simpa using hX))
theorem act_self (X : Tr) (s : Str) : act (X, X) s = s := by
  have e := adr_find X s
  have hk := find_le X s
  generalize find X s = f at e hk
  rw [← e, act_at (X, X) f.1 hk]
end Go.Proofs.Ytijnadjgmmednaa.N
