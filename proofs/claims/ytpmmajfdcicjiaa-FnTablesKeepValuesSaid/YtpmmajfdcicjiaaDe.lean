import Derived.Test.YtpmmajfdcicjiaaBa
import Derived.Test.YtpmmajfdcicjiaaPu
import Derived.Test.YtpmmajfdcicjiaaSl
import Derived.Test.YtpmmajfdcicjiaaProg
import Derived.Test.YtpmmajfdcicjiaaWl
import Derived.Test.YtpmmajfdcicjiaaPp
import Derived.Test.YtpmmajfdcicjiaaTs
import Derived.Test.YtpmmajfdcicjiaaPx
import Derived.Test.YtpmmajfdcicjiaaPg
import Derived.Test.YtpmmajfdcicjiaaSx
import Derived.Test.YtpmmajfdcicjiaaSg
import Derived.Test.YtpmmajfdcicjiaaTn
import Derived.Test.YtpmmajfdcicjiaaTp
import Derived.Test.YtpmmajfdcicjiaaTr
import Derived.Test.YtpmmajfdcicjiaaTu
import Derived.Test.YtpmmajfdcicjiaaTg
import Derived.Test.YtpmmajfdcicjiaaDa
import Derived.Test.YtpmmajfdcicjiaaWt
import Derived.Test.YtpmmajfdcicjiaaWu
import Derived.Test.YtpmmajfdcicjiaaVt
import Derived.Test.YtpmmajfdcicjiaaVu
import Derived.Test.YtpmmajfdcicjiaaVv
import Derived.Test.YtpmmajfdcicjiaaVw
import Derived.Test.YtpmmajfdcicjiaaVx
import Derived.Test.YtpmmajfdcicjiaaKv
import Derived.Test.YtpmmajfdcicjiaaKw
import Derived.Test.YtpmmajfdcicjiaaLa
import Derived.Test.YtpmmajfdcicjiaaDb
import Derived.Test.YtpmmajfdcicjiaaDc
import Derived.Test.YtpmmajfdcicjiaaSb
import Derived.Test.YtpmmajfdcicjiaaTb
import Derived.Test.YtpmmajfdcicjiaaDd
import Derived.OwnWalk
import Derived.Deep.LoopGhost
import Derived.Deep.RegionHeld3
import Derived.Deep.QuietTactic
import Derived.BigQuiet
import Derived.Deep.CutRange
/- FnTablesKeepValues: what its calls give, and the walk. -/
namespace Go.Proofs.Ytpmmajfdcicjiaa.N
open Go.RowKit
set_option linter.unusedVariables false
set_option linter.unusedSimpArgs false

/-- What the calls on a pair and a table give. -/
structure First (s t : ByteArray) (xss : List (List Int)) (keeps ok assoc one three : Bool) (l : List Int) : Prop where
  k1 : ∀ tv w, ReadsM w tv xss → Calls Try.prog 12 #[.agg #[.string s, .string t], tv] w (GivesTT w keeps ok)
  k2 : ∀ tv w, ReadsM w tv xss → Calls Try.prog 11 #[.agg #[.string s, .string t], tv] w (GivesTT w keeps ok)
  a1 : ∀ tv w, ReadsM w tv xss → Calls Try.prog 14 #[tv] w (GivesBB w assoc one)
  a2 : ∀ tv w, ReadsM w tv xss → Calls Try.prog 13 #[tv] w (GivesBB w assoc one)
  f1 : ∀ tv w, ReadsM w tv xss → Calls Try.prog 16 #[tv] w (GivesLI w l three)
  f2 : ∀ tv w, ReadsM w tv xss → Calls Try.prog 15 #[tv] w (GivesLI w l three)
  ll : l.length ≤ 3
  e1 : three = (one && !assoc)
  e2 : (ok && (!one || (assoc && !keeps))) = false
  g1 : one = true → ∀ tv w, ReadsM w tv xss → Calls Try.prog 11 #[.agg #[.string (tx LLt), .string (tx RRt)], tv] w (GivesTT w assoc true)
  v1 : three = true → ∃ a b : Int, (a == b) = false ∧ (∀ tv v w, ReadsM w tv xss → RC w v (ints l) → Calls Try.prog 19 #[.string (tx LLt), tv, v] w (GivesIB w a true)) ∧
    ∀ tv v w, ReadsM w tv xss → RC w v (ints l) → Calls Try.prog 19 #[.string (tx RRt), tv, v] w (GivesIB w b true)
theorem first_of (s t : ByteArray) (xss : List (List Int)) (hl : xss.length + total xss ≤ 1048576) : ∃ keeps ok assoc one three l, First s t xss keeps ok assoc one three l := by
  by_cases hT : Tab xss
  · obtain ⟨l, hb⟩ := brk_exists xss.length (gOf xss)
    have hg : ∀ i j, i < xss.length → j < xss.length → gOf xss i j < xss.length := fun i j => gOf_lt hT
    have HA : assocN xss.length (gOf xss) ↔ l = [] := by
      constructor
      · intro ha
        rcases hb with ⟨rfl, _⟩ | ⟨i, j, k, hi, hj, hk, _, h1, _⟩
        · rfl
        · exact absurd (ha i j k hi hj hk) h1
      · intro e
        rcases hb with ⟨_, h⟩ | ⟨i, j, k, hi, hj, hk, e2, _⟩
        · exact h
        · rw [e2] at e; cases e
    have DA : (!decide (0 < l.length)) = true ↔ assocN xss.length (gOf xss) := by
      rw [HA]; cases l <;> simp
    have G1 : ∀ tv w, ReadsM w tv xss → Calls Try.prog 11 #[.agg #[.string (tx LLt), .string (tx RRt)], tv] w (GivesTT w (!decide (0 < l.length)) true) := fun tv w h =>
      implKV_yes LLt RRt _ _ xss hl ⟨rfl, rfl, rfl, by decide, hT⟩ _ (DA.trans keeps_gen0.symm) tv w h
    have V1 : decide (0 < l.length) = true → ∃ a b : Int, (a == b) = false ∧ (∀ tv v w, ReadsM w tv xss → RC w v (ints l) → Calls Try.prog 19 #[.string (tx LLt), tv, v] w (GivesIB w a true)) ∧
        ∀ tv v w, ReadsM w tv xss → RC w v (ints l) → Calls Try.prog 19 #[.string (tx RRt), tv, v] w (GivesIB w b true) := by
      intro h
      have h := of_decide_eq_true h
      rcases hb with ⟨rfl, _⟩ | ⟨i, j, k, hi, hj, hk, rfl, h1, _⟩
      · simp at h
      · have hin : InN xss.length [(i : Int), (j : Int), (k : Int)] := by
          intro x hx
          simp at hx
          rcases hx with rfl | rfl | rfl <;> omega
        have e : natsOf [(i : Int), (j : Int), (k : Int)] = [i, j, k] := rfl
        refine ⟨_, _, ?_, implVT_yes LLt _ xss _ hl ⟨rfl, by decide, hT, rfl, hin⟩, implVT_yes RRt _ xss _ hl ⟨rfl, by decide, hT, rfl, hin⟩⟩
        rw [beq_eq_false_iff_ne]
        intro e2
        have e3 : val (gOf xss) LLt [i, j, k] = val (gOf xss) RRt [i, j, k] := Int.ofNat.inj e2
        exact h1 e3.symm
    by_cases h : ∃ A B, KGood A B s t xss
    · obtain ⟨A, B, h⟩ := h
      by_cases k : Keeps xss.length (gOf xss) A B []
      · exact ⟨true, true, _, true, _, l, specKV_yes A B s t xss hl h true ⟨fun _ => k, fun _ => rfl⟩, implKV_yes A B s t xss hl h true ⟨fun _ => k, fun _ => rfl⟩, specAssoc_yes xss hl hT l hb, implAssoc_yes xss hl hT l hb, specFB_yes xss hl hT l hb, implFB_yes xss hl hT l hb, hb.short, by simp, by simp, fun _ => G1, V1⟩
      · have na : (!decide (0 < l.length)) = false := by
          cases e : (!decide (0 < l.length)) with
          | false => rfl
          | true => exact absurd (keeps_assoc hg (DA.1 e) h.2.2.1) k
        exact ⟨false, true, _, true, _, l, specKV_yes A B s t xss hl h false ⟨(fun h => by cases h), (fun h => absurd h k)⟩, implKV_yes A B s t xss hl h false ⟨(fun h => by cases h), (fun h => absurd h k)⟩, specAssoc_yes xss hl hT l hb, implAssoc_yes xss hl hT l hb, specFB_yes xss hl hT l hb, implFB_yes xss hl hT l hb, hb.short, by simp, by rw [na]; rfl, fun _ => G1, V1⟩
    · exact ⟨false, false, _, true, _, l, specKV_no s t xss hl h, implKV_no s t xss hl h, specAssoc_yes xss hl hT l hb, implAssoc_yes xss hl hT l hb, specFB_yes xss hl hT l hb, implFB_yes xss hl hT l hb, hb.short, by simp, by simp, fun _ => G1, V1⟩
  · have h : ¬ ∃ A B, KGood A B s t xss := fun ⟨A, B, h⟩ => hT h.2.2.2.2
    exact ⟨false, false, false, false, false, [], specKV_no s t xss hl h, implKV_no s t xss hl h, specAssoc_no xss hl hT, implAssoc_no xss hl hT, specFB_no xss hl hT, implFB_no xss hl hT, by simp, rfl, rfl, (fun h => by cases h), (fun h => by cases h)⟩

/-- What the calls on a tree, a table and values give. -/
structure Second (s : ByteArray) (xss : List (List Int)) (xs : List Int) (r : Int) (b : Bool) : Prop where
  v1 : ∀ tv v w, ReadsM w tv xss → RC w v (ints xs) → Calls Try.prog 21 #[.string s, tv, v] w (GivesIB w r b)
  v2 : ∀ tv v w, ReadsM w tv xss → RC w v (ints xs) → Calls Try.prog 19 #[.string s, tv, v] w (GivesIB w r b)
  more : b = true → ∃ (fits : Bool) (c : Nat) (u : ByteArray) (o : Int), (∀ tv w, ReadsM w tv xss → Calls Try.prog 13 #[tv] w (GivesBB w fits true)) ∧
    (∀ w, Calls Try.prog 25 #[.string s] w fun e w' => e = .returned (.tuple #[.int .i64 c, .bool true]) ∧ Ext w w') ∧
    (∀ w, Calls Try.prog 26 #[.int .i64 c] w fun e w' => e = .returned (.tuple #[.string u, .bool true]) ∧ Ext w w') ∧
    (∀ tv v w, ReadsM w tv xss → RC w v (ints xs) → Calls Try.prog 19 #[.string u, tv, v] w (GivesIB w o true)) ∧ (!fits || (o == r)) = true
theorem second_of (s : ByteArray) (xss : List (List Int)) (xs : List Int) (hl : xss.length + total xss ≤ 1048576) (hxl : xs.length ≤ 1048576) : ∃ r b, Second s xss xs r b := by
  by_cases h : ∃ T, VTGood T s xss xs
  · obtain ⟨T, h⟩ := h
    obtain ⟨l, hb⟩ := brk_exists xss.length (gOf xss)
    have h' := h
    obtain ⟨rfl, h8, hT, hx, hi⟩ := h'
    have hg : ∀ i j, i < xss.length → j < xss.length → gOf xss i j < xss.length := fun i j => gOf_lt hT
    refine ⟨_, _, specVT_yes T _ xss xs hl h, implVT_yes T _ xss xs hl h, fun _ => ⟨_, T.carets, tx (comb T.carets), _, implAssoc_yes xss hl hT l hb, CaretsOf_yes T h8, RightComb_yes T.carets h8, implVT_yes (comb T.carets) _ xss xs hl ⟨rfl, by rw [comb_carets]; exact h8, hT, by rw [comb_carets]; exact hx, hi⟩, ?_⟩⟩
    rcases hb with ⟨rfl, ha⟩ | ⟨i, j, k, hi, hj, hk, rfl, h1, _⟩
    · rw [val_fld hg ha T _ (by rw [natsOf_length]; omega) (natsOf_lt hi), val_fld hg ha (comb T.carets) _ (by rw [natsOf_length, comb_carets]; omega) (natsOf_lt hi), comb_carets]
      simp
    · simp
  · exact ⟨_, _, specVT_no s xss xs hl hxl h, implVT_no s xss xs hl hxl h, (fun h => by cases h)⟩
theorem total_le (xss : List (List Int)) (b : Nat) (h : ∀ xs ∈ xss, xs.length ≤ b) : total xss ≤ xss.length * b := by
  induction xss with
  | nil => simp [total]
  | cons a l ih =>
    have h1 := h a List.mem_cons_self
    have h2 := ih fun xs hx => h xs (List.mem_cons_of_mem _ hx)
    simp only [total, List.map_cons, List.sum_cons, List.length_cons] at *
    rw [Nat.add_mul]
    omega
end Go.Proofs.Ytpmmajfdcicjiaa.N
