import Derived.Test.YtfjhecilkeikiaaBa
import Derived.Test.YtfjhecilkeikiaaPu
import Derived.Test.YtfjhecilkeikiaaSl
import Derived.Test.YtfjhecilkeikiaaProg
import Derived.Test.YtfjhecilkeikiaaWl
import Derived.Test.YtfjhecilkeikiaaWp
import Derived.Test.YtfjhecilkeikiaaT3
import Derived.Test.YtfjhecilkeikiaaPp
import Derived.Test.YtfjhecilkeikiaaPn
import Derived.Test.YtfjhecilkeikiaaSr
import Derived.Test.YtfjhecilkeikiaaQl
import Derived.Test.YtfjhecilkeikiaaPt
import Derived.Test.YtfjhecilkeikiaaQp
/- Trees and reduced pairs, each one once: plain Lean. -/
namespace Go.Proofs.Ytfjhecilkeikiaa.N
open Go.RowKit
set_option linter.unusedVariables false
set_option linter.unusedSimpArgs false

theorem nodup_map {α β : Type} {f : α → β} {l : List α} (hf : ∀ a b, f a = f b → a = b) (h : l.Nodup) : (l.map f).Nodup := by
  unfold List.Nodup at *
  rw [List.pairwise_map]
  exact h.imp fun hne e => hne (hf _ _ e)
theorem TL_nodup (n : Nat) : (TL n).Nodup := by
  induction n using Nat.strongRecOn with
  | _ n ih =>
  cases n with
  | zero => rw [TL_zero]; simp
  | succ n =>
    rw [TL_succ, (srtT_perm _).nodup_iff]
    unfold raw rawJ List.Nodup
    rw [List.pairwise_flatMap]
    refine ⟨fun i hi => ?_, ?_⟩
    · have hi := List.mem_range.1 hi
      rw [List.pairwise_flatMap]
      refine ⟨fun a ha => nodup_map (f := Tr.node a) (fun x y e => by injection e) (ih _ (by omega)), ?_⟩
      refine (ih i (by omega)).imp ?_
      intro a a' hne x hx y hy e
      obtain ⟨b, _, rfl⟩ := List.mem_map.1 hx
      obtain ⟨b', _, rfl⟩ := List.mem_map.1 hy
      injection e with e1 _
      exact hne e1
    · refine List.pairwise_lt_range.imp ?_
      intro i j hij x hx y hy e
      obtain ⟨a, ha, hx⟩ := List.mem_flatMap.1 hx
      obtain ⟨a', ha', hy⟩ := List.mem_flatMap.1 hy
      obtain ⟨b, _, rfl⟩ := List.mem_map.1 hx
      obtain ⟨b', _, rfl⟩ := List.mem_map.1 hy
      injection e with e1 _
      have h1 := TL_carets i a ha
      have h2 := TL_carets j a' ha'
      rw [e1] at h1
      omega
theorem redA_nodup {A B : List Tr} (hA : A.Nodup) (hB : B.Nodup) : (redA A B).Nodup := by
  unfold redA redR List.Nodup
  rw [List.pairwise_flatMap]
  refine ⟨fun a ha => nodup_map (f := fun b => ((a, b) : TP)) (fun x y e => by injection e) (hB.sublist List.filter_sublist), ?_⟩
  refine hA.imp ?_
  intro a a' hne x hx y hy e
  obtain ⟨b, _, rfl⟩ := List.mem_map.1 hx
  obtain ⟨b', _, rfl⟩ := List.mem_map.1 hy
  injection e with e1 _
  exact hne e1
theorem texts_nodup (n : Nat) : ((redA (TL n) (TL n)).map ptx).Nodup := nodup_map (fun _ _ e => ptx_inj e) (redA_nodup (TL_nodup n) (TL_nodup n))
theorem texts_srt (n : Nat) : srt ((redA (TL n) (TL n)).map ptx) = (prs n).map ptx := (srtP_tx _).symm
end Go.Proofs.Ytfjhecilkeikiaa.N
