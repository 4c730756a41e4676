import Derived.Test.YtpmmajfdcicjiaaGreatG1RFnHalvesAndShifts
import Derived.Test.YtpmmajfdcicjiaaGreatG2RFnHalvesAndShifts
import Derived.Test.YtpmmajfdcicjiaaGreatProg
import Derived.Test.YtpmmajfdcicjiaaGreatG3RFnHalvesAndShifts
import Derived.Test.YtpmmajfdcicjiaaGreatG4RFnHalvesAndShifts
import Derived.Test.YtpmmajfdcicjiaaGreatG6RFnHalvesAndShifts
import Derived.Test.YtpmmajfdcicjiaaGreatG9RFnHalvesAndShifts
import Derived.Test.YtpmmajfdcicjiaaGreatG10RFnHalvesAndShifts
import Derived.Test.YtpmmajfdcicjiaaGreatG5RFnHalvesAndShifts
import Derived.Deep.LoopGhost
import Derived.Deep.RegionHeld3
import Derived.Deep.QuietTactic
import Derived.BigQuiet
import Derived.OwnWalk
/- Tables drawn (printed by mk/db.py). -/
namespace Go.Proofs.YtpmmajfdcicjiaaGreat.N
open Go.RowKit
set_option linter.unusedVariables false
set_option linter.unusedSimpArgs false

theorem Mv.grown {g : Nat} {w0 w w' : World} {row : Option Nat} (h : Mv g w0 w) (hg : w.grownBy w' row) (hr : ∀ k, row = some k → w0.heap.size ≤ k) : Mv g w0 w' :=
  ⟨hg.os.trans h.os, hg.tape.trans h.tape, hg.output.trans h.output, Nat.le_trans h.size hg.size, fun k hk hne => (hg.block k (Nat.lt_of_lt_of_le hk h.size) (fun e => by have := hr k e.symm; omega)).trans (h.block k hk hne)⟩
theorem Cur.grown {w w' : World} {g m : Nat} {row : Option Nat} (h : Cur w g m) (hg : w.grownBy w' row) (hr : ∀ k, row = some k → g < k) : Cur w' g m := by
  have hl := h.lt
  obtain ⟨A, n, c, a, s, h1, h2, h3, h4⟩ := h
  have hne : ∀ k, k ≤ g → some k ≠ row := fun k hk e => by have := hr k e.symm; omega
  refine ⟨A, n, c, a, s, (hg.block g hl (hne g (Nat.le_refl _))).trans h1, h2, h3, fun hp => ?_⟩
  obtain ⟨ad, e, hb2, hc⟩ := h4 hp
  refine ⟨ad, e, hb2, fun j hj => ?_⟩
  obtain ⟨x, hx, hx2⟩ := hc j hj
  exact ⟨x, hx, (World.cell?_of_block (hg.block (ad.add j).block (by rw [add_block]; omega) (hne _ (by rw [add_block]; omega)))).trans hx2⟩
theorem Rows.mv {w w' : World} {base g m : Nat} {us : List Value} {xss : List (List Int)} (h : Rows w base us xss) (c : Cur w g m) (hm : Mv g w w') : Rows w' base us xss :=
  ⟨h.1, fun r xs e => let ⟨u, a, b⟩ := h.2.1 r xs e; ⟨u, a, b.mv c (by decide) hm⟩, h.2.2⟩
theorem Rows.outer {w w' : World} {base b2 : Nat} {v : Value} {us us2 : List Value} {xss : List (List Int)} (h : Rows w base us xss) (ho : Own w b2 45 v us2) (hg : w.grownBy w' v.ownBlock) : Rows w' base us xss :=
  ⟨h.1, fun r xs e => let ⟨u, a, b⟩ := h.2.1 r xs e; ⟨u, a, b.far hg (fun k hk hu => by
    obtain ⟨cs, fr, e1⟩ := ho.typed k hk
    obtain ⟨cs2, fr2, e2⟩ := b.typed k hu
    rw [e1] at e2
    injection e2 with e2
    injection e2 with _ e3
    exact absurd e3 (by decide))⟩, h.2.2⟩
theorem infoRowI : (Tryz.prog.info? 45).map (fun i => (i.zero, i.size, i.bytes)) = some (some (.slice none 0 0), 1, 24) := by kernel_rfl

end Go.Proofs.YtpmmajfdcicjiaaGreat.N
/- Draws: bytes at hand, what is drawn for tables. -/
namespace Go.Proofs.YtpmmajfdcicjiaaGreat.N
open Go.RowKit
set_option linter.unusedVariables false
set_option linter.unusedSimpArgs false

/-- A slice of bytes that can be read. -/
def BytesR (w : World) (v : Value) (n : Nat) : Prop := ∃ A c, v = .slice A n c ∧ n ≤ 1048576 ∧ (0 < n → ∃ ad, A = some ad ∧ ad.block < w.heap.size ∧ ∀ j, j < n → ∃ b : Nat, b < 256 ∧ w.cell? (ad.add j) = some (.int .u8 (b : Nat)))
theorem BytesR.ext {w w' : World} {v : Value} {n : Nat} (h : BytesR w v n) (hx : Ext w w') : BytesR w' v n := by
  obtain ⟨A, c, e, h1, h2⟩ := h
  exact ⟨A, c, e, h1, fun hp => let ⟨ad, ea, hb, hc⟩ := h2 hp; ⟨ad, ea, Nat.lt_of_lt_of_le hb hx.size, fun j hj => let ⟨b, b1, b2⟩ := hc j hj; ⟨b, b1, hx.cell b2⟩⟩⟩
theorem Cur.new {w : World} {v : Value} {n g : Nat} (h : BytesR w v n) (hg : w.heap.size = g) : Cur (w.alloc (.cells #[v, .int .i64 0, .int .u64 0] 63)) g 100000 := by
  subst hg
  obtain ⟨A, c, rfl, h1, h2⟩ := h
  have hx := (Ext.refl w).alloc (.cells #[.slice A n c, .int .i64 0, .int .u64 0] 63)
  exact ⟨A, n, c, 0, 0, heap_alloc_new w _, by omega, h1, fun hp => let ⟨ad, ea, hb, hc⟩ := h2 hp; ⟨ad, ea, hb, fun j hj => let ⟨b, b1, b2⟩ := hc j hj; ⟨b, b1, hx.cell b2⟩⟩⟩

def bigB (n m : Nat) : Bool := !decide (n ≤ 1048576 ∧ m ≤ 1048576 - n)
theorem bigB_no {n m : Nat} (h : bigB n m = false) : n ≤ 1048576 ∧ m ≤ 1048576 := by
  unfold bigB at h
  simp at h
  omega
theorem big_calls (n m : Nat) (hm : m ≤ 9223372036854775807) (A B : Option Addr) (c d : Nat) (w : World) :
    Calls Tryz.prog 5 #[.slice A n c, .slice B m d] w fun e w' => e = .returned (.bool (bigB n m)) ∧ w = w' := by
  by_cases h : n ≤ 1048576
  · have h1 : ¬ ((1048576 : Int) < n) := by omega
    have h2 : (n : Int) ≤ 1048576 := by omega
    have h0 : (0 : Int) ≤ n := by omega
    by_cases k : m ≤ 1048576 - n
    · have k1 : ¬ ((1048576 : Int) - n < m) := by omega
      have hb : bigB n m = false := by unfold bigB; simp; omega
      rw [hb]
      clear hb
      go_enter Tryz.func5, Tryz.ntmps5
      go_wp2_with fail
      go_ret
      exact ⟨rfl, rfl⟩
    · have k1 : (1048576 : Int) - n < m := by omega
      have hb : bigB n m = true := by unfold bigB; simp; omega
      rw [hb]
      clear hb
      go_enter Tryz.func5, Tryz.ntmps5
      go_wp2_with fail
      go_ret
      exact ⟨rfl, rfl⟩
  · have h1 : (1048576 : Int) < n := by omega
    have hb : bigB n m = true := by unfold bigB; simp; omega
    rw [hb]
    clear hb
    go_enter Tryz.func5, Tryz.ntmps5
    go_wp2_with fail
    go_ret
    exact ⟨rfl, rfl⟩
end Go.Proofs.YtpmmajfdcicjiaaGreat.N
