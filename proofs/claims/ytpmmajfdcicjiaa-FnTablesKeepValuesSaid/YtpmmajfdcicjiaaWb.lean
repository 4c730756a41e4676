import Derived.Test.YtpmmajfdcicjiaaBa
import Derived.Test.YtpmmajfdcicjiaaPu
import Derived.Test.YtpmmajfdcicjiaaSl
import Derived.Test.YtpmmajfdcicjiaaProg
import Derived.Test.YtpmmajfdcicjiaaWl
import Derived.Test.YtpmmajfdcicjiaaPp
import Derived.Test.YtpmmajfdcicjiaaTs
import Derived.Test.YtpmmajfdcicjiaaPx
import Derived.Test.YtpmmajfdcicjiaaPg
import Derived.Test.YtpmmajfdcicjiaaSx
import Derived.Test.YtpmmajfdcicjiaaSg
import Derived.Test.YtpmmajfdcicjiaaDa
import Derived.Test.YtpmmajfdcicjiaaWt
import Derived.Test.YtpmmajfdcicjiaaLa
import Derived.Test.YtpmmajfdcicjiaaTp
import Derived.Test.YtpmmajfdcicjiaaDb
import Derived.Test.YtpmmajfdcicjiaaDc
import Derived.Deep.Matrix
import Derived.Deep.Slices
import Derived.ChangeSlices
/- Arguments that are bytes, as a row opens them. -/
namespace Go.Proofs.Ytpmmajfdcicjiaa.N
open Go.RowKit Go.Deep
set_option linter.unusedVariables false
set_option linter.unusedSimpArgs false

/-- A slice of bytes of any length that can be read. -/
def BytesA (w : World) (v : Value) (n : Nat) : Prop := ∃ A c, v = .slice A n c ∧ (0 < n → ∃ ad, A = some ad ∧ ∀ j, j < n → ∃ b : Nat, b < 256 ∧ w.cell? (ad.add j) = some (.int .u8 (b : Nat)))
theorem BytesA.small {w : World} {v : Value} {n : Nat} (h : BytesA w v n) (hn : n ≤ 1048576) : BytesR w v n := by
  obtain ⟨A, c, e, h2⟩ := h
  refine ⟨A, c, e, hn, fun hp => ?_⟩
  obtain ⟨ad, ea, hc⟩ := h2 hp
  obtain ⟨b, _, hb⟩ := hc 0 hp
  refine ⟨ad, ea, ?_, hc⟩
  have := World.block_lt_of_cell? w _ hb
  rwa [add_block] at this
theorem one_uint8 : Try.prog.cellsOf 5 = 1 := by kernel_rfl
theorem bytes_of {H : Type} {enc : TypeId × Value → H} {W : World} {held : Bool} {fuel base : Nat} {a : Option Addr} {len cap : Nat} {x : DataW H × List MemPlace}
    (h : DataW.trod enc Try.prog W base (fun _ => true) held fuel 22 (Value.slice a len cap).cells.toList = some x) : ∃ n : Nat, n ≤ maxLen ∧ BytesA W (.slice a len cap) n := by
  rcases Go.ChangeShapes.open_ints Try.underlying22 Try.underlying5 one_uint8 h with ⟨hcs, hx⟩ | ⟨ad, len', cap', zs, hcs, _, hl, hm, hz, hx, hcell, hwz⟩
  · simp [Value.cells] at hcs
    obtain ⟨rfl, rfl, rfl⟩ := hcs
    exact ⟨0, by simp, none, 0, rfl, fun h => absurd h (Nat.lt_irrefl _)⟩
  · simp [Value.cells] at hcs
    obtain ⟨rfl, rfl, rfl⟩ := hcs
    simp only [if_true] at hz
    refine ⟨len, by omega, some ad, cap, rfl, fun _ => ⟨ad, rfl, fun j hj => ?_⟩⟩
    have hj2 : j < zs.length := by omega
    have hw := hwz _ (List.getElem_mem hj2)
    have e : zs.getD j 0 = zs[j] := by simp [List.getD_eq_getElem?_getD, List.getElem?_eq_getElem hj2]
    have hr : 0 ≤ zs[j] ∧ zs[j] < 256 := by
      have h1 := hw
      simp [Lit.wf] at h1
      have a : IntKind.u8.min = 0 := by decide
      have b : IntKind.u8.max = 255 := by decide
      omega
    refine ⟨zs[j].toNat, by omega, ?_⟩
    rw [hcell j hj2, e]
    rw [show ((zs[j].toNat : Nat) : Int) = zs[j] from by omega]
end Go.Proofs.Ytpmmajfdcicjiaa.N
