import Derived.StillTactics
import Derived.Test.YtgnepbogadfinaaDoorXf2
import Derived.Test.YtgnepbogadfinaaDoorXf9
/- A part of the proof: lemmas that later parts use. -/
set_option linter.unusedVariables false
set_option linter.unusedSimpArgs false
namespace Go.Proofs.YtgnepbogadfinaaDoor.N
open Go.RowKit
def adB (l : List UInt8) : Bool := decide (l.length ≤ 10) && l.all fun c => c == 48 || c == 49
theorem contains2 (c : UInt8) : ([48, 49] : List UInt8).contains c = (c == 48 || c == 49) := by cases h : (c == 48) <;> cases h2 : (c == 49) <;> simp [List.contains, List.elem, h, h2]
theorem dropW_nil (p : UInt8 → Bool) (l : List UInt8) : l.dropWhile p = [] ↔ l.all p = true := by
  induction l with
  | nil => simp
  | cons a l ih =>
    rw [List.dropWhile_cons]
    cases h : p a with
    | true => simp [h, ih]
    | false => simp [h]
theorem trim_nil (l : List UInt8) : (Lib.trimS l [48, 49] = []) ↔ (l.all fun c => c == 48 || c == 49) = true := by
  have e : (fun c => ([48, 49] : List UInt8).contains c) = fun c => c == 48 || c == 49 := funext contains2
  unfold Lib.trimS Lib.trimLeftS Lib.trimRightS
  rw [e]
  generalize (fun c : UInt8 => c == 48 || c == 49) = p
  rw [dropW_nil, List.all_reverse]
  cases h : l.all p with
  | true =>
    have : l.reverse.dropWhile p = [] := (dropW_nil p _).2 (by rw [List.all_reverse]; exact h)
    simp [this]
  | false =>
    refine ⟨fun h2 => ?_, fun h2 => (by cases h2)⟩
    exfalso
    have : (l.reverse.dropWhile p) = [] := by
      cases hd : l.reverse.dropWhile p with
      | nil => rfl
      | cons a m =>
        have h3 : p a = false := by
          have := List.head?_dropWhile_not p l.reverse
          rw [hd] at this
          simpa using this
        rw [hd] at h2
        simp [h3] at h2
    have := (dropW_nil p _).1 this
    rw [List.all_reverse, h] at this
    cases this
theorem str_nil (l : List UInt8) : (⟨l.toArray⟩ : ByteArray).toList.isEmpty = l.isEmpty := by
  have : (⟨l.toArray⟩ : ByteArray).toList = l := S_toList l
  rw [this]
set_option maxHeartbeats 1600000 in
theorem isAddress_calls (s : ByteArray) (w : World) : Calls Tryd.prog 52 #[.string s] w fun e w' => e = .returned (.bool (adB s.toList)) ∧ Ext w w' := by
  have hz : s.toList.length = s.size := by rw [ByteArray.toList_eq]; rfl
  by_cases h : s.size ≤ 10
  · have C1 := Lib.hid (fun W => Any.strings_Trim_laid trim (by kernel_rfl) s ⟨#[48, 49]⟩ W (by omega) (by decide) (ascii_of_all (by decide)))
    have E : Hid ((⟨(Lib.trimS s.data.toList [48, 49]).toArray⟩ : ByteArray).toList.isEmpty = adB s.toList) := by
      show _ = _
      have t2 := trim_nil s.data.toList
      have d1 : decide (s.toList.length ≤ 10) = true := decide_eq_true (by omega)
      rw [str_nil]
      unfold adB
      rw [d1, Bool.true_and, ByteArray.toList_eq, Bool.eq_iff_iff, List.isEmpty_iff]
      exact t2
    change Hid (∀ W, Calls Tryd.prog 85 _ W (fun e w' => e = .returned (.string ⟨(Lib.trimS s.data.toList [48, 49]).toArray⟩) ∧ Below W.heap.size W w')) at C1
    generalize (⟨(Lib.trimS s.data.toList [48, 49]).toArray⟩ : ByteArray) = r at *
    have h1 : (s.size : Int) ≤ 10 := by omega
    rw [← E.out]
    clear hz
    go_enter Tryd.func52, Tryd.ntmps52
    go_wp2_with fail
    refine (C1.out _).mono ?_
    rintro e w1 ⟨rfl, x1⟩
    go_wp2_with fail
    go_ret
    exact ⟨rfl, x1⟩
  · have h1 : ¬ ((s.size : Int) ≤ 10) := by omega
    have e : adB s.toList = false := by unfold adB; rw [decide_eq_false (by omega), Bool.false_and]
    rw [e]
    clear e hz
    go_enter Tryd.func52, Tryd.ntmps52
    go_wp2_with fail
    go_ret
    exact ⟨rfl, Ext.refl _⟩
end Go.Proofs.YtgnepbogadfinaaDoor.N
