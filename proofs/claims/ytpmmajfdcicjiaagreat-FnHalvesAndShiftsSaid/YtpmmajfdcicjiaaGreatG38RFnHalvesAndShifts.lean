import Derived.Test.YtpmmajfdcicjiaaGreatG1RFnHalvesAndShifts
import Derived.Test.YtpmmajfdcicjiaaGreatG2RFnHalvesAndShifts
import Derived.Test.YtpmmajfdcicjiaaGreatProg
import Derived.Test.YtpmmajfdcicjiaaGreatG3RFnHalvesAndShifts
import Derived.Test.YtpmmajfdcicjiaaGreatG4RFnHalvesAndShifts
import Derived.Test.YtpmmajfdcicjiaaGreatG6RFnHalvesAndShifts
import Derived.Test.YtpmmajfdcicjiaaGreatG9RFnHalvesAndShifts
import Derived.Test.YtpmmajfdcicjiaaGreatG10RFnHalvesAndShifts
import Derived.Test.YtpmmajfdcicjiaaGreatG5RFnHalvesAndShifts
import Derived.Test.YtpmmajfdcicjiaaGreatG11RFnHalvesAndShifts
import Derived.Deep.Matrix
import Derived.Deep.Slices
import Derived.ChangeSlices
import Derived.Test.YtpmmajfdcicjiaaGreatG37RFnHalvesAndShifts
import Derived.OwnWalk
/- Arguments that are bytes, as a row opens them. -/
namespace Go.Proofs.YtpmmajfdcicjiaaGreat.N
open Go.RowKit Go.Deep
set_option linter.unusedVariables false
set_option linter.unusedSimpArgs false

/-- A slice of bytes of any length that can be read. -/
def BytesA (w : World) (v : Value) (n : Nat) : Prop := ∃ A c, v = .slice A n c ∧ (0 < n → ∃ ad, A = some ad ∧ ∀ j, j < n → ∃ b : Nat, b < 256 ∧ w.cell? (ad.add j) = some (.int .u8 (b : Nat)))
theorem BytesA.small {w : World} {v : Value} {n : Nat} (h : BytesA w v n) (hn : n ≤ 1048576) : BytesR w v n := by
  obtain ⟨A, c, e, h2⟩ := h
  refine ⟨A, c, e, hn, fun hp => ?_⟩
  obtain ⟨ad, ea, hc⟩ := h2 hp
  obtain ⟨b, _, hb⟩ := hc 0 hp
  refine ⟨ad, ea, ?_, hc⟩
  have := World.block_lt_of_cell? w _ hb
  rwa [add_block] at this
theorem one_uint8 : Tryz.prog.cellsOf 5 = 1 := by kernel_rfl
theorem bytes_of {H : Type} {enc : TypeId × Value → H} {W : World} {held : Bool} {fuel base : Nat} {a : Option Addr} {len cap : Nat} {x : DataW H × List MemPlace}
    (h : DataW.trod enc Tryz.prog W base (fun _ => true) held fuel 22 (Value.slice a len cap).cells.toList = some x) : ∃ n : Nat, n ≤ maxLen ∧ BytesA W (.slice a len cap) n := by
  rcases Go.ChangeShapes.open_ints Tryz.underlying22 Tryz.underlying5 one_uint8 h with ⟨hcs, hx⟩ | ⟨ad, len', cap', zs, hcs, _, hl, hm, hz, hx, hcell, hwz⟩
  · simp [Value.cells] at hcs
    obtain ⟨rfl, rfl, rfl⟩ := hcs
    exact ⟨0, by simp, none, 0, rfl, fun h => absurd h (Nat.lt_irrefl _)⟩
  · simp [Value.cells] at hcs
    obtain ⟨rfl, rfl, rfl⟩ := hcs
    simp only [if_true] at hz
    refine ⟨len, by omega, some ad, cap, rfl, fun _ => ⟨ad, rfl, fun j hj => ?_⟩⟩
    have hj2 : j < zs.length := by omega
    have hw := hwz _ (List.getElem_mem hj2)
    have e : zs.getD j 0 = zs[j] := by simp [List.getD_eq_getElem?_getD, List.getElem?_eq_getElem hj2]
    have hr : 0 ≤ zs[j] ∧ zs[j] < 256 := by
      have h1 := hw
      simp [Lit.wf] at h1
      have a : IntKind.u8.min = 0 := by decide
      have b : IntKind.u8.max = 255 := by decide
      omega
    refine ⟨zs[j].toNat, by omega, ?_⟩
    rw [hcell j hj2, e]
    rw [show ((zs[j].toNat : Nat) : Int) = zs[j] from by omega]
end Go.Proofs.YtpmmajfdcicjiaaGreat.N
/- FnHalvesAndShifts: the law. -/
namespace Go.Proofs.YtpmmajfdcicjiaaGreat.N
open Go.RowKit
set_option linter.unusedVariables false
set_option linter.unusedSimpArgs false

set_option maxHeartbeats 3200000 in
set_option maxRecDepth 100000 in
theorem walk_FnHalvesAndShifts (n : Nat) (hn : n ≤ maxLen) (v : Value) (m : Nat) (hm : m ≤ maxLen) (u : Value) (w : World) (hv : BytesA w v n) (hu : BytesA w u m) :
    Calls Tryz.prog 3 #[v, u] w fun e w' => e = .returned (.bool true) ∧ Ext w w' := by
  cases hb : bigB n m with
  | false => exact walk_halves n m v u w (hv.small (bigB_no hb).1) (hu.small (bigB_no hb).2) hb
  | true =>
    have CB := Lib.hid (fun A B c d W => big_calls n m (by unfold maxLen at hm; omega) A B c d W)
    rw [hb] at CB
    obtain ⟨A, c, rfl, _⟩ := hv
    obtain ⟨B, d, rfl, _⟩ := hu
    clear hb hn hm
    go_enter Tryz.func3, Tryz.ntmps3
    go_wp2_with fail
    refine (CB.out _ _ _ _ _).mono ?_
    rintro e w0 ⟨rfl, rfl⟩
    go_wp2_with fail
    go_ret
    exact ⟨rfl, Ext.refl _⟩
end Go.Proofs.YtpmmajfdcicjiaaGreat.N
