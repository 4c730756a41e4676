import Derived.Test.YtpmmajfdcicjiaaBa
import Derived.Test.YtpmmajfdcicjiaaPu
import Derived.Test.YtpmmajfdcicjiaaPp
import Derived.Test.YtpmmajfdcicjiaaTs
import Derived.Test.YtpmmajfdcicjiaaPx
/- A text filled: plain Lean. -/
namespace Go.Proofs.Ytpmmajfdcicjiaa.N
set_option linter.unusedVariables false
set_option linter.unusedSimpArgs false

def fillP : List UInt8 → List ByteArray → List UInt8
  | [], _ => []
  | c :: l, ps => if c = 46 then (match ps with | p :: ps' => p.toList ++ fillP l ps' | [] => fillP l []) else c :: fillP l ps
theorem fillP_dot (l : List UInt8) (p : ByteArray) (ps : List ByteArray) : fillP (46 :: l) (p :: ps) = p.toList ++ fillP l ps := by simp [fillP]
theorem fillP_other (c : UInt8) (l : List UInt8) (ps : List ByteArray) (h : c ≠ 46) : fillP (c :: l) ps = c :: fillP l ps := by simp [fillP, h]
theorem fill_step_dot (l : List UInt8) (ps : List ByteArray) (j k : Nat) (hj : l[j]? = some 46) (hk : k < ps.length) : fillP (l.drop j) (ps.drop k) = ps[k].toList ++ fillP (l.drop (j + 1)) (ps.drop (k + 1)) := by
  obtain ⟨h1, h2⟩ := List.getElem?_eq_some_iff.1 hj
  rw [List.drop_eq_getElem_cons h1, List.drop_eq_getElem_cons hk, h2, fillP_dot]
theorem fill_step_other (l : List UInt8) (ps : List ByteArray) (j k : Nat) (c : UInt8) (hj : l[j]? = some c) (hc : c ≠ 46) : fillP (l.drop j) (ps.drop k) = c :: fillP (l.drop (j + 1)) (ps.drop k) := by
  obtain ⟨h1, h2⟩ := List.getElem?_eq_some_iff.1 hj
  rw [List.drop_eq_getElem_cons h1, h2, fillP_other _ _ _ hc]
theorem dots_lt (l : List UInt8) (j : Nat) (hj : l[j]? = some 46) : dots (l.take j) < dots l := by
  obtain ⟨h1, h2⟩ := List.getElem?_eq_some_iff.1 hj
  have h3 := List.take_append_drop j l
  rw [List.drop_eq_getElem_cons h1, h2] at h3
  have h4 : dots l = dots (l.take j) + dots (46 :: l.drop (j + 1)) := by rw [← dots_app, h3]
  have h6 : dots (46 :: l.drop (j + 1)) = dots (l.drop (j + 1)) + 1 := by simp [dots]
  omega
end Go.Proofs.Ytpmmajfdcicjiaa.N
