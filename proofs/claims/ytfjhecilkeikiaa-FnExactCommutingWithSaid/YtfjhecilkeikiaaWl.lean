import Derived.Test.YtfjhecilkeikiaaBa
import Derived.Test.YtfjhecilkeikiaaSl
import Derived.Test.YtfjhecilkeikiaaProg
import Derived.LoopTactic
import Derived.Deep.LoopGhost
import Derived.Laws.BytesArg
import Derived.Lib.ConvBytes
/- The laws' own helpers: comparing, marking and holding results. -/
namespace Go.Proofs.Ytfjhecilkeikiaa.N
open Go.RowKit
set_option linter.unusedVariables false
set_option linter.unusedSimpArgs false

def strs (xs : List ByteArray) : List Value := xs.map fun s => .string s
def ints (xs : List Int) : List Value := xs.map fun n => .int .i64 n
theorem strs_length (xs : List ByteArray) : (strs xs).length = xs.length := by simp [strs]
theorem ints_length (xs : List Int) : (ints xs).length = xs.length := by simp [ints]
theorem strs_one (xs : List ByteArray) : ∀ u ∈ strs xs, u.oneCell' = true := by
  intro u hu; obtain ⟨s, _, rfl⟩ := List.mem_map.1 hu; rfl
theorem ints_one (xs : List Int) : ∀ u ∈ ints xs, u.oneCell' = true := by
  intro u hu; obtain ⟨s, _, rfl⟩ := List.mem_map.1 hu; rfl
theorem strs_append (xs ys : List ByteArray) : strs xs ++ strs ys = strs (xs ++ ys) := by simp [strs]
theorem ints_append (xs ys : List Int) : ints xs ++ ints ys = ints (xs ++ ys) := by simp [ints]
theorem strs_get (xs : List ByteArray) (k : Nat) (h : k < xs.length) : (strs xs)[k]? = some (.string xs[k]) := by simp [strs, List.getElem?_eq_getElem h]
theorem ints_get (xs : List Int) (k : Nat) (h : k < xs.length) : (ints xs)[k]? = some (.int .i64 xs[k]) := by simp [ints, List.getElem?_eq_getElem h]

def mtl : Nat → Nat → List UInt8 → List UInt8
  | 0, _, acc => acc
  | n + 1, k, acc => if k = 0 then acc else mtl n (k / 10) (UInt8.ofNat (48 + k % 10) :: acc)
def mt (k : Nat) : ByteArray := S (109 :: mtl k k [])


theorem conv1 (W : World) (n : Int) : (convert 91 9 (.slice (some ⟨W.heap.size, 0, none⟩) 1 1)).run Try.prog (W.alloc (.cells #[.int .u8 n] 5)) = .ok (.string (S [UInt8.ofNat n.toNat])) (W.alloc (.cells #[.int .u8 n] 5)) := by
  have h := run_convert_bytes_arg (P := Try.prog) (W.alloc (.cells #[.int .u8 n] 5)) 91 5 Try.underlying91 Try.underlying5 W.heap.size 0 1 1 [n] rfl (fun i hi => by
    obtain rfl : i = 0 := by simpa using hi
    go_simp) 9 Try.underlying9
  exact h

set_option maxHeartbeats 1600000 in
set_option maxRecDepth 100000 in
theorem markText_calls (k : Nat) (h1 : 1 ≤ k) (h2 : k < 1000000000) (w : World) :
    Calls Try.prog 44 #[.int .i64 k] w fun e w' => e = .returned (.string (mt k)) ∧ Ext w w' := by
  have b1 : (1 : Int) ≤ k ∧ (k : Int) < 1000000000 := by omega
  have b0 : decide (k = 0) = false := decide_eq_false (by omega)
  go_enter Try.func44, Try.ntmps44
  go_wp2
  go_loopw [0, 3] (fun i o wr => ∃ (n j : Nat) (acc : List UInt8), i = .int .i64 j ∧ o = .string (S acc) ∧ j < 1000000000 ∧ acc.length ≤ 1000000000 - j ∧ mtl n j acc = mtl k k [] ∧ j ≤ n ∧ Ext w wr) (fun i _ _ => (intOf i).toNat)
  case atStart => exact ⟨k, k, [], rfl, rfl, h2, by simp, rfl, Nat.le_refl _, Ext.refl _⟩
  case round =>
    obtain ⟨n, j, acc, rfl, rfl, hj, hlen, hm, hn, hx⟩ := hrel
    have HM := Lib.hid hm
    have HX := Lib.hid hx
    clear hm hx
    cases n with
    | zero =>
      obtain rfl : j = 0 := by omega
      have HE : Hid (mt k = S (109 :: acc)) := by show mt k = _; rw [mt, ← HM.out]; rfl
      have e1 : Hid ((⟨#[109]⟩ : ByteArray) ++ S acc = S (109 :: acc)) := S_append [109] acc
      have z : (S acc).size ≤ 1000000000 := by rw [S_size]; omega
      go_wp2
      go_ret
      exact ⟨by rw [HE.out, ← e1.out]; rfl, HX.out⟩
    | succ n =>
    by_cases hlt : 0 < j
    · have b2 : (0 : Int) < j ∧ (j : Int) < 1000000000 := by omega
      have c1 := conv1 wr (48 + (j : Int) % 10)
      have HM2 : Hid (mtl n (j / 10) (UInt8.ofNat (48 + (j : Int) % 10).toNat :: acc) = mtl k k []) := by
        rw [show (48 + (j : Int) % 10).toNat = 48 + j % 10 from by omega, ← HM.out]; show _ = if j = 0 then _ else _; rw [if_neg (by omega)]
      generalize UInt8.ofNat (48 + (j : Int) % 10).toNat = d at *
      have z : (S acc).size ≤ 1000000000 := by rw [S_size]; omega
      have E := Lib.hid (S_append [d] acc)
      have z2 : (S [d]).size ≤ 1 := by rw [S_size]; exact Nat.le_refl 1
      go_wp2
      go_roundw
      case rel => exact ⟨n, j / 10, d :: acc, by first | rfl | go_num, by rw [E.out]; rfl, by omega, by simp only [List.length_cons]; omega, HM2.out, by omega, HX.out.alloc _⟩
      case measure => simp [intOf]; omega
    · obtain rfl : j = 0 := by omega
      have HE : Hid (mt k = S (109 :: acc)) := by show mt k = _; rw [mt, ← HM.out]; rfl
      have e1 : Hid ((⟨#[109]⟩ : ByteArray) ++ S acc = S (109 :: acc)) := S_append [109] acc
      have z : (S acc).size ≤ 1000000000 := by rw [S_size]; omega
      go_wp2
      go_ret
      exact ⟨by rw [HE.out, ← e1.out]; rfl, HX.out⟩


/-- A slice of strings (of numbers) of the call's own, and a bool. -/
def GivesLS (w : World) (xs : List ByteArray) (b : Bool) (e : Ending) (w' : World) : Prop := ∃ v, e = .returned (.tuple #[v, .bool b]) ∧ Own w' w.heap.size 9 v (strs xs) ∧ Ext w w'
def GivesLI (w : World) (xs : List Int) (b : Bool) (e : Ending) (w' : World) : Prop := ∃ v, e = .returned (.tuple #[v, .bool b]) ∧ Own w' w.heap.size 3 v (ints xs) ∧ Ext w w'

/-- What is written to mark a result. -/
def marksS (m n : Nat) : List ByteArray := (List.range n).map fun i => mt (m + i)
def marksI (m n : Nat) : List Int := (List.range n).map fun i => ((m + i : Nat) : Int)
theorem marksS_length (m n : Nat) : (marksS m n).length = n := by simp [marksS]
theorem marksI_length (m n : Nat) : (marksI m n).length = n := by simp [marksI]
theorem marksS_get (m n k : Nat) (h : k < n) : (strs (marksS m n))[k]? = some (.string (mt (m + k))) := by simp [strs, marksS, h]
theorem marksI_get (m n k : Nat) (h : k < n) : (ints (marksI m n))[k]? = some (.int .i64 ((m + k : Nat) : Int)) := by simp [ints, marksI, h]

set_option maxHeartbeats 1600000 in
theorem eqIntS_calls (xs : List Int) (hn : xs.length < 1000000000) (va vb : Value) (w : World) (ha : Reads w va (ints xs)) (hb : Reads w vb (ints xs)) :
    Calls Try.prog 14 #[va, vb] w fun e w' => e = .returned (.bool true) ∧ ∃ n, w' = w.drewN n := by
  obtain ⟨A, c, rfl, _, ha⟩ := ha
  obtain ⟨B, d, rfl, _, hb⟩ := hb
  rw [ints_length] at *
  have HA := Lib.hid ha
  have HB := Lib.hid hb
  clear ha hb
  go_enter Try.func14, Try.ntmps14
  go_wp2
  go_loopw [5] (fun i wr => ∃ k : Nat, k ≤ xs.length ∧ i = .int .i64 k ∧ ∃ n, wr = w.drewN n) (fun i _ => xs.length - (intOf i).toNat)
  case atStart => exact ⟨0, Nat.zero_le _, rfl, 0, rfl⟩
  case round =>
    obtain ⟨k, hk, rfl, n, rfl⟩ := hrel
    by_cases hlt : k < xs.length
    · obtain ⟨ad, rfl, ca⟩ := HA.out (by omega)
      obtain ⟨bd, rfl, cb⟩ := HB.out (by omega)
      have c1 := ca k _ (ints_get xs k hlt)
      have c2 := cb k _ (ints_get xs k hlt)
      have h0 : (0 : Int) ≤ k := by omega
      have h1 : (k : Int) < xs.length := by omega
      clear ca cb HA HB
      generalize xs[k] = x at *
      go_wp2
      go_quiet (fail)
      go_wp2
      exact ⟨⟨k + 1, by omega, by go_num, _, rfl⟩, by simp [intOf]; omega⟩
    · have h1 : (xs.length : Int) ≤ k := by omega
      go_wp2
      go_ret
      exact ⟨rfl, n, rfl⟩

set_option maxHeartbeats 1600000 in
theorem heldIntS_calls (n m : Nat) (hm : 1 ≤ m) (hn : m + n < 100000000) (v : Value) (w : World) (ha : Reads w v (ints (marksI m n))) :
    Calls Try.prog 16 #[v, .int .i64 m] w fun e w' => e = .returned (.int .i64 ((m + n : Nat) : Int)) ∧ Ext w w' := by
  obtain ⟨A, c, rfl, _, ha⟩ := ha
  rw [ints_length, marksI_length] at *
  have HA := Lib.hid ha
  have b0 : (1 : Int) ≤ m ∧ (m : Int) < 1000000000 := by omega
  clear ha
  go_enter Try.func16, Try.ntmps16
  go_wp2
  go_loopw [5, 1] (fun i q wr => ∃ k : Nat, k ≤ n ∧ i = .int .i64 k ∧ q = .int .i64 ((m + k : Nat) : Int) ∧ Ext w wr) (fun i _ _ => n - (intOf i).toNat)
  case atStart => exact ⟨0, Nat.zero_le _, rfl, rfl, Ext.refl _⟩
  case round =>
    obtain ⟨k, hk, rfl, rfl, HX⟩ := hrel
    have K1 : Hid ((m : Int) + k = ((m + k : Nat) : Int)) := by show _ = _; omega
    have K2 : Hid ((m : Int) + k + 1 = ((m + (k + 1) : Nat) : Int)) := by show _ = _; omega
    by_cases hlt : k < n
    · obtain ⟨ad, rfl, ca⟩ := HA.out (by omega)
      have c0 := ca k _ (marksI_get m n k hlt)
      have h0 : (0 : Int) ≤ k := by omega
      have h1 : (k : Int) < n := by omega
      have h3 : (0 : Int) ≤ (m : Int) + k ∧ (m : Int) + k < 1000000000 := by omega
      clear ca HA
      have c1 := HX.cell c0
      go_wp2
      exact ⟨⟨k + 1, by omega, by go_num, by first | rfl | (rw [K2.out]; rfl) | go_num, HX⟩, by simp [intOf]; omega⟩
    · have h1 : (n : Int) ≤ k := by omega
      obtain rfl : k = n := by omega
      go_wp2
      go_ret
      exact ⟨by first | rfl | (rw [K1.out]; rfl), HX⟩

/-- The marks laid on the first k cells. -/
theorem marksI_step (m k : Nat) (xs : List Value) (hk : k < xs.length) : ((ints (marksI m k)) ++ xs.drop k).set k (.int .i64 ((m + k : Nat) : Int)) = (ints (marksI m (k + 1))) ++ xs.drop (k + 1) := by
  have h1 : (ints (marksI m k)).length = k := by rw [ints_length, marksI_length]
  rw [List.set_append_right _ _ (by omega), h1, Nat.sub_self, List.drop_eq_getElem_cons hk, List.set_cons_zero]
  simp [ints, marksI, List.range_succ]
set_option maxHeartbeats 1600000 in
theorem markIntS_calls (base : Nat) (xs : List Value) (m : Nat) (hm : 1 ≤ m) (hn : m + xs.length < 100000000) (v : Value) (w : World) (ha : Own w base 3 v xs) :
    Calls Try.prog 15 #[v, .int .i64 m] w fun e w' => e = .returned (.int .i64 ((m + xs.length : Nat) : Int)) ∧ Own w' base 3 v (ints (marksI m xs.length)) ∧ w.grownBy w' v.ownBlock := by
  have b0 : (1 : Int) ≤ m ∧ (m : Int) < 1000000000 := by omega
  rcases Nat.eq_zero_or_pos xs.length with hz | hz
  · obtain rfl := List.eq_nil_of_length_eq_zero hz
    obtain ⟨A, c, rfl, _, _⟩ := ha.reads
    have HO := Lib.hid ha
    clear ha
    have q : Hid (Own w base 3 (.slice A 0 c) (ints (marksI m 0))) := HO.out
    go_enter Try.func15, Try.ntmps15
    go_wp2
    go_loopw [5, 1] (fun i q wr => i = .int .i64 0 ∧ q = .int .i64 (m : Int) ∧ wr = w) (fun i _ _ => 0)
    case atStart => exact ⟨rfl, rfl, rfl⟩
    case round =>
      obtain ⟨rfl, rfl, rfl⟩ := hrel
      go_wp2
      go_ret
      exact ⟨rfl, q.out, grownBy_refl _ _⟩
  · obtain ⟨g, c, rfl, hg, hgl⟩ := World.ownsRow.form ha hz
    have HA := Lib.hid ha
    clear ha
    go_enter Try.func15, Try.ntmps15
    go_wp2
    go_loopw [5, 1] (fun i q wr => ∃ k : Nat, k ≤ xs.length ∧ i = .int .i64 k ∧ q = .int .i64 ((m + k : Nat) : Int) ∧ wr.ownsRow base 3 1 (.slice (some ⟨g, 0, none⟩) xs.length c) xs.length ((ints (marksI m k)) ++ xs.drop k) ∧ w.grownBy wr (some g)) (fun i _ _ => xs.length - (intOf i).toNat)
    case atStart => exact ⟨0, Nat.zero_le _, rfl, rfl, HA.out, grownBy_refl _ _⟩
    case round =>
      obtain ⟨k, hk, rfl, rfl, ho, hgr⟩ := hrel
      have HO := Lib.hid ho
      have HG := Lib.hid hgr
      clear ho hgr
      have K1 : Hid ((m : Int) + k = ((m + k : Nat) : Int)) := by show _ = _; omega
      have K2 : Hid ((m : Int) + k + 1 = ((m + (k + 1) : Nat) : Int)) := by show _ = _; omega
      by_cases hlt : k < xs.length
      · have c0 : wr.cell? ⟨g, k, none⟩ = some xs[k] := by
          rw [World.ownsRow.cellAt HO.out k (by omega), List.getElem?_append_right (by rw [ints_length, marksI_length]; exact Nat.le_refl _), ints_length, marksI_length, Nat.sub_self, List.getElem?_drop, Nat.add_zero, List.getElem?_eq_getElem hlt]
        have h0 : (0 : Int) ≤ k := by omega
        have h1 : (k : Int) < xs.length := by omega
        have h3 : (0 : Int) ≤ (m : Int) + k ∧ (m : Int) + k < 1000000000 := by omega
        have ST := Lib.hid (marksI_step m k xs hlt)
        generalize xs[k] = old at *
        have f1 : wr.frozen? ⟨g, k, none⟩ = false := World.ownsRow.frozenAt HO.out k
        obtain ⟨O3, g3⟩ := World.ownsRow.stored HO.out k (.int .i64 ((m + k : Nat) : Int))
        have K3 : Hid ((Value.int .i64 ((m + k : Nat) : Int)) = .int .i64 ((m : Int) + k)) := by show _ = _; rw [← K1.out]
        rw [ST.out, K3.out] at O3
        rw [K3.out] at g3
        have O4 := Lib.hid O3
        have G4 := Lib.hid (World.grownBy.trans (HG.out) g3)
        clear O3 g3
        go_wp2
        exact ⟨⟨k + 1, by omega, by go_num, by first | rfl | (rw [K2.out]; rfl) | go_num, O4.out, G4.out⟩, by simp [intOf]; omega⟩
      · have h1 : (xs.length : Int) ≤ k := by omega
        obtain rfl : k = xs.length := by omega
        have O4 : Hid (Own wr base 3 (.slice (some ⟨g, 0, none⟩) xs.length c) (ints (marksI m xs.length))) := by
          have := HO.out; rw [List.drop_length, List.append_nil] at this
          show World.ownsRow _ _ _ _ _ _ _
          rw [ints_length, marksI_length]; exact this
        go_wp2
        go_ret
        exact ⟨by first | rfl | (rw [K1.out]; rfl), O4.out, HG.out⟩

end Go.Proofs.Ytfjhecilkeikiaa.N
