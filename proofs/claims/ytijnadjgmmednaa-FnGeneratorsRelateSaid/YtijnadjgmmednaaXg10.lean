import Derived.DataElems
import Derived.Test.YtijnadjgmmednaaXg8
/- A part of the proof: lemmas that later parts use. -/
set_option linter.unusedVariables false
set_option linter.unusedSimpArgs false
namespace Go.Proofs.Ytijnadjgmmednaa.N
open Go.RowKit
def val (g : Nat → Nat → Nat) : Tr → List Nat → Nat
  | .leaf, ys => ys.getD 0 0
  | .node l r, ys => g (val g l ys) (val g r (ys.drop (l.carets + 1)))
def RC (w : World) (v : Value) (xs : List Value) : Prop := Reads w v xs ∧ ∃ A c, v = .slice A xs.length c ∧ xs.length ≤ c
theorem RC.ext {w w' : World} {v : Value} {xs : List Value} (h : RC w v xs) (hx : Ext w w') : RC w' v xs := ⟨h.1.ext hx, h.2⟩
theorem Own.rc {w : World} {base : Nat} {e : TypeId} {v : Value} {xs : List Value} (h : Own w base e v xs) : RC w v xs := by
  refine ⟨h.reads, ?_⟩
  rcases h.2 with ⟨rfl, h0⟩ | ⟨g, cap, cur, rfl, hb, hh, h1, h2⟩
  · exact ⟨none, 0, by rw [h0], by omega⟩
  · exact ⟨_, cap, rfl, h1⟩
theorem RC.open {w : World} {v : Value} {ys : List Nat} (h : RC w v (nats ys)) (hp : 0 < ys.length) : ∃ ad c, v = .slice (some ad) ys.length c ∧ ys.length ≤ c ∧ w.cell? (ad.add 0) = some (.int .i64 (ys.getD 0 0 : Nat)) ∧
    (∀ k, k ≤ ys.length → RC w (.slice (some (ad.add k)) (ys.length - k) (c - k)) (nats (ys.drop k))) ∧ ∀ k, k ≤ ys.length → RC w (.slice (some ad) k c) (nats (ys.take k)) := by
  obtain ⟨⟨A, c, e, _, hc⟩, A', c', rfl, hle⟩ := h
  rw [nats_length] at *
  injection e with e1 _ e3
  subst e1 e3
  obtain ⟨ad, rfl, hcell⟩ := hc hp
  have at_ : ∀ j, j < ys.length → w.cell? (ad.add j) = some (.int .i64 (ys.getD j 0 : Nat)) := fun j hj => by
    rw [hcell j _ (nats_get ys j hj), List.getD_eq_getElem?_getD, List.getElem?_eq_getElem hj]; rfl
  refine ⟨ad, c', rfl, hle, at_ 0 hp, fun k hk => ?_, fun k hk => ?_⟩
  · have e1 : (nats (ys.drop k)).length = ys.length - k := by rw [nats_length, List.length_drop]
    refine ⟨⟨some (ad.add k), c' - k, by rw [e1], (fun h => by cases h), fun _ => ⟨_, rfl, fun j u hu => ?_⟩⟩, _, _, by rw [e1], by rw [e1]; omega⟩
    have hj : j < ys.length - k := by rw [← e1]; exact (List.getElem?_eq_some_iff.1 hu).1
    rw [Go.Addr.add_add, at_ (k + j) (by omega), ← hu, nats_get _ _ (by rw [List.length_drop]; exact hj), List.getElem_drop, List.getD_eq_getElem?_getD, List.getElem?_eq_getElem (by omega)]
    rfl
  · have e1 : (nats (ys.take k)).length = k := by rw [nats_length, List.length_take]; omega
    refine ⟨⟨some ad, c', by rw [e1], (fun h => by cases h), fun _ => ⟨_, rfl, fun j u hu => ?_⟩⟩, _, _, by rw [e1], by rw [e1]; omega⟩
    have hj : j < k := by rw [← e1]; exact (List.getElem?_eq_some_iff.1 hu).1
    rw [at_ j (by omega), ← hu, nats_get _ _ (by rw [List.length_take]; omega), List.getElem_take, List.getD_eq_getElem?_getD, List.getElem?_eq_getElem (by omega)]
    rfl
end Go.Proofs.Ytijnadjgmmednaa.N
namespace Go.Proofs.Ytijnadjgmmednaa.N
open Go.RowKit
def bkOf (k : Nat) : Bool := decide (k = 1)
def grp (T : Tr) (k : Nat) : List Tr := if k = 0 then [] else if k = 1 then moves false T else near0 T
theorem grp_step (T : Tr) (k : Nat) (h : k < 2) : grp T (k + 1) = grp T k ++ moves (bkOf k) T := by
  rcases (by omega : k = 0 ∨ k = 1) with rfl | rfl <;> simp [grp, bkOf, near0]
theorem grp_length (T : Tr) (k : Nat) : (grp T k).length ≤ T.carets + T.carets := by
  have h1 := moves_length false T; have h2 := moves_length true T; have h3 := turns_length false T; have h4 := turns_length true T
  unfold grp near0
  split
  · simp
  · split
    · omega
    · rw [List.length_append]; omega
def mvs (bk : Bool) (T : Tr) (j : Nat) : List Tr := ((T.turns bk).take j).filterMap fun a => turnT bk a T
theorem mvs_all (bk : Bool) (T : Tr) : mvs bk T (T.turns bk).length = moves bk T := by unfold mvs moves; rw [List.take_length]
theorem mvs_length (bk : Bool) (T : Tr) (j : Nat) : (mvs bk T j).length ≤ T.carets := by
  unfold mvs
  have h1 := List.length_filterMap_le (fun a => turnT bk a T) ((T.turns bk).take j)
  have h2 := List.length_take_le j (T.turns bk)
  have h3 := List.length_take_le' j (T.turns bk)
  have := turns_length bk T
  omega
theorem cutS {w : World} {A : Option Addr} {n c : Nat} {xs : List Value} (h : Reads w (.slice A n c) xs) (hn : xs.length = n) (k : Nat) (hk : k ≤ n) (hc : n ≤ c) :
    (∃ A', Reads w (.slice A' k c) (xs.take k) ∧ (A' = if c = 0 then A else Option.map (fun x => x.add (0 * 1)) A)) ∧ (∃ A', Reads w (.slice A' (n - k) (c - k)) (xs.drop k) ∧ (A' = if c = k then A else Option.map (fun x => x.add (k * 1)) A)) := by
  obtain ⟨B, d, e, hz, hrd⟩ := h
  injection e with e1 e2 e3
  subst e1 e3
  rw [hn] at hrd
  clear e2
  by_cases hn0 : n = 0
  · subst hn0
    obtain rfl : k = 0 := by omega
    obtain rfl : xs = [] := List.length_eq_zero_iff.1 hn
    clear hn
    refine ⟨⟨_, ⟨_, c, rfl, ?_, fun h => absurd h (Nat.lt_irrefl _)⟩, rfl⟩, ⟨_, ⟨_, c, rfl, ?_, fun h => absurd h (Nat.lt_irrefl _)⟩, rfl⟩⟩
    · split
      · exact fun _ => ‹c = 0›
      · intro h; exact hz (by simpa using h)
    · split
      · exact fun _ => ‹c = 0›
      · intro h; exact hz (by simpa using h)
  · obtain ⟨ad, rfl, ca⟩ := hrd (by omega)
    have hc0 : ¬ c = 0 := by omega
    refine ⟨⟨_, ⟨_, c, by rw [List.length_take, hn, Nat.min_eq_left (by omega)], ?_, fun h => ?_⟩, rfl⟩, ⟨_, ⟨_, c - k, by rw [List.length_drop, hn], ?_, fun h => ?_⟩, rfl⟩⟩
    · rw [if_neg hc0]; intro h; simp at h
    · rw [if_neg hc0]
      refine ⟨_, rfl, fun j u hu => ?_⟩
      have hj : j < k := by have := (List.getElem?_eq_some_iff.1 hu).1; rw [List.length_take] at this; omega
      rw [List.getElem?_take_of_lt hj] at hu
      rw [Go.Addr.add_add, Nat.zero_mul, Nat.zero_add]
      exact ca j u hu
    · split
      · intro h; cases h
      · intro h; simp at h
    · rw [List.length_drop] at h
      rw [if_neg (by omega : ¬ c = k)]
      refine ⟨_, rfl, fun j u hu => ?_⟩
      rw [List.getElem?_drop] at hu
      rw [Go.Addr.add_add, Nat.mul_one]
      exact ca (k + j) u hu
theorem strs_take (l : List ByteArray) (k : Nat) : strs (l.take k) = (strs l).take k := by simp [strs, List.map_take]
theorem strs_drop (l : List ByteArray) (k : Nat) : strs (l.drop k) = (strs l).drop k := by simp [strs, List.map_drop]
set_option maxHeartbeats 6400000 in
set_option maxRecDepth 100000 in
theorem brNear_calls (T : Tr) (hT : T.carets ≤ 50) (w : World) :
    Calls Try.prog 107 #[.string (tx T)] w fun e w' => ∃ v, e = .returned v ∧ Own w' w.heap.size 9 v (strs (nearS T)) ∧ Ext w w' := by
  have HT := Lib.hid hT
  have CP := Lib.hid (fun bk w => brPlaces_calls bk T [] ⟨#[]⟩ w hT (by simp; omega) rfl)
  simp only [brPl_nil] at CP
  have CA := Lib.hid (fun bk a W => brAt_calls bk a T (S a) W hT rfl)
  clear hT
  generalize ht : tx T = t at *
  clear ht
  have X0 := Lib.hid ((Ext.refl w).alloc (.cells #[.bool false, .bool true] 4))
  have B0 : Hid ((w.alloc (.cells #[.bool false, .bool true] 4)).heap[w.heap.size]? = some (.cells #[.bool false, .bool true] 4)) := heap_alloc_new w _
  go_enter Try.func107, Try.ntmps107
  go_wp2_with fail
  generalize w.alloc (.cells #[.bool false, .bool true] 4) = W at *
  go_loopw [14, 3] (fun i o wr => ∃ k : Nat, k ≤ 2 ∧ i = .int .i64 k ∧ Hid (Own wr W.heap.size 9 o (strs (srt ((grp T k).map tx)))) ∧ Hid (Ext W wr)) (fun i _ _ => 2 - (intOf i).toNat)
  case atStart => exact ⟨0, Nat.zero_le _, rfl, Own.nil _ _ _, Ext.refl _⟩
  case round =>
    obtain ⟨k, hk, rfl, HO, HX⟩ := hrel
    by_cases hlt : k < 2
    · obtain ⟨c0, c1⟩ := cells_of (HX.out.at B0.out)
      have c : wr.cell? ⟨w.heap.size, k, none⟩ = some (.bool (bkOf k)) := by
        rcases (by omega : k = 0 ∨ k = 1) with rfl | rfl
        · exact c0
        · exact c1
      have GS := Lib.hid (grp_step T k hlt)
      have h0 : (0 : Int) ≤ k := by omega
      have h1 : (k : Int) < 2 := by omega
      have GL := Lib.hid (grp_length T k)
      clear c0 c1
      generalize bkOf k = bk at *
      generalize grp T k = P at *
      go_wp2_with fail
      refine (CP.out bk _).mono ?_
      rintro e w2 ⟨v2, rfl, o2, x2⟩
      obtain ⟨A2, q2, rfl, _, _⟩ := o2.reads
      rw [sls_length] at o2 ⊢
      have R2 := Lib.hid o2.reads
      have HO2 := Lib.hid (HO.out.ext x2)
      have HX2 := Lib.hid (HX.out.trans x2)
      have LQ := Lib.hid (turns_length bk T)
      have MA := Lib.hid (mvs_all bk T)
      have MT := Lib.hid (moves_take bk T)
      have ML := Lib.hid (mvs_length bk T)
      have M0 : Hid (mvs bk T 0 = []) := by show _ = _; simp [mvs]
      clear o2 x2
      generalize hqs : T.turns bk = qs at *
      have qb : (qs.length : Int) ≤ 50 := by have := LQ.out; have := HT.out; omega
      go_wp2_with fail
      go_loopw [22, 3] (fun i o wr => ∃ j : Nat, j ≤ qs.length ∧ i = .int .i64 j ∧ Hid (Own wr W.heap.size 9 o (strs (srt ((P ++ mvs bk T j).map tx)))) ∧ Hid (Ext w2 wr)) (fun i _ _ => qs.length - (intOf i).toNat)
      case atStart => exact ⟨0, Nat.zero_le _, rfl, by rw [M0.out, List.append_nil]; exact HO2.out, Ext.refl _⟩
      case round =>
        obtain ⟨j, hj, rfl, HO, HX⟩ := hrel
        by_cases hjt : j < qs.length
        · obtain ⟨Ax, cx, e1, _, rd⟩ := R2.out.ext HX.out
          rw [sls_length] at rd e1
          obtain ⟨ad, e2, ca⟩ := rd (by omega)
          injection e1 with e3 e4 e5
          subst e3 e5
          subst e2
          clear e4
          have c1 := ca j _ (sls_get qs j hjt)
          have g0 : (0 : Int) ≤ j := by omega
          have g1 : (j : Int) < qs.length := by omega
          obtain ⟨U, hU, hM⟩ := MT.out j _ (List.getElem?_eq_getElem hjt)
          have hM : mvs bk T (j + 1) = mvs bk T j ++ [U] := by unfold mvs; rw [hqs]; exact hM
          have HM : Hid (srt ((P ++ mvs bk T (j + 1)).map tx) = ins (tx U) (srt ((P ++ mvs bk T j).map tx))) := by
            show _ = _
            rw [hM, ← List.append_assoc, List.map_append, List.map_singleton, srt_snoc]
          have C := CA.out bk qs[j] wr
          rw [hU] at C
          have C := Lib.hid C
          have LL : (srt ((P ++ mvs bk T j).map tx)).length ≤ 150 := by
            rw [srt_length, List.length_map, List.length_append]
            have := GL.out; have := ML.out j; have := HT.out; omega
          clear ca rd hU hM
          generalize srt ((P ++ mvs bk T j).map tx) = l at *
          generalize qs[j] = qa at *
          go_wp2_with fail
          refine C.out.mono ?_
          rintro e w3 ⟨⟨n3, rfl⟩, rfl⟩
          have HO3 := HO.out.ext ((Ext.refl wr).drewN n3)
          have HX3 := Lib.hid (HX.out.trans ((Ext.refl wr).drewN n3))
          generalize wr.drewN n3 = w3 at *
          obtain ⟨⟨A3, c3, rfl, hz3, rd3⟩, A4, c4, e34, hc⟩ := HO3.rc
          injection e34 with e5 e6 e7
          subst e5 e7
          rw [strs_length] at *
          have RD := Lib.hid rd3
          have R3 := Lib.hid HO3.reads
          clear e6 rd3 HO3
          go_wp2_with fail
          go_loop [10] (fun c => ∃ m : Nat, m ≤ l.length ∧ c = .int .i64 m ∧ Hid (∀ j y, j < m → l[j]? = some y → blt y (tx U) = true)) (fun c => l.length - (intOf c).toNat)
          case atStart => exact ⟨0, Nat.zero_le _, rfl, (fun j y h => absurd h (Nat.not_lt_zero _))⟩
          case round =>
            obtain ⟨m, hm, rfl, HB⟩ := hrel
            by_cases hmn : m < l.length
            · obtain ⟨ad3, rfl, ca⟩ := RD.out (by omega)
              have d1 := ca m _ (strs_get l m hmn)
              have m0 : (0 : Int) ≤ m := by omega
              have m1 : (m : Int) < l.length := by omega
              have LM : l[m]? = some l[m] := List.getElem?_eq_getElem hmn
              have LM := Lib.hid LM
              clear ca
              generalize l[m] = y at *
              cases ht : Op.bytesLess y.toList (tx U).toList with
              | true =>
                have HB2 : Hid (∀ j z, j < m + 1 → l[j]? = some z → blt z (tx U) = true) := by
                  intro j z hj hz
                  rcases Nat.lt_or_eq_of_le (Nat.lt_succ_iff.1 hj) with hj | rfl
                  · exact HB.out j z hj hz
                  · rw [LM.out] at hz; injection hz with hz; subst hz; exact ht
                go_wp2_with fail
                exact ⟨⟨m + 1, by omega, by go_num, HB2.out⟩, by simp [intOf]; omega⟩
              | false =>
                have IA : Hid (ins (tx U) l = l.take m ++ tx U :: l.drop m) := ins_at (tx U) l m hm HB.out (fun z hz => by rw [LM.out] at hz; injection hz with hz; subst hz; exact ht)
                have b0 : ¬ c3 = 0 := by omega
                have b1 : ¬ c3 = m := by omega
                have b2 : (m : Int) ≤ c3 := by omega
                have b3 : (m : Int) ≤ l.length := by omega
                obtain ⟨⟨A', RT, eT⟩, ⟨A'', RDp, eD⟩⟩ := cutS R3.out (strs_length l) m hm hc
                rw [if_neg b0, show Option.map (fun x => Go.Addr.add x (0 * 1)) (some ad3) = some ad3 by simp [Go.Addr.add]] at eT
                rw [if_neg b1, show Option.map (fun x => Go.Addr.add x (m * 1)) (some ad3) = some (ad3.add m) by simp] at eD
                subst eT eD
                rw [← strs_take] at RT
                rw [← strs_drop] at RDp
                have ON : Own (w3.alloc (.cells #[] 9)) w3.heap.size 9 (.slice (some ⟨w3.heap.size, 0, none⟩) 0 0) (strs []) := Own.lit w3 w3.heap.size 9 #[] (Nat.le_refl _) (by show 0 ≤ maxLen; decide)
                have LT : Hid (((strs []).length + (strs (l.take m)).length) * 16 ≤ 140737488355328) := by show _ ≤ _; simp only [strs_length, List.length_take, List.length_nil]; omega
                have LX := Lib.hid ((Ext.refl w3).alloc (.cells #[] 9)).size
                have RT1 := RT.ext ((Ext.refl w3).alloc (.cells #[] 9))
                have RDh := Lib.hid RDp
                have LU1 : Hid (((strs (l.take m)).length + (strs [tx U]).length) * 16 ≤ 140737488355328) := by show _ ≤ _; simp only [strs_length, List.length_take, List.length_nil, List.length_singleton]; omega
                have LU2 : Hid (((strs (l.take m ++ [tx U])).length + (strs (l.drop m)).length) * 16 ≤ 140737488355328) := by show _ ≤ _; simp only [strs_length, List.length_append, List.length_take, List.length_drop, List.length_nil, List.length_singleton]; omega
                have EQ : Hid (strs (l.take m ++ [tx U]) ++ strs (l.drop m) = strs (ins (tx U) l)) := by show _ = _; rw [strs_append]; exact congrArg strs (by first | (rw [IA.out, List.append_assoc]; rfl) | (rw [IA.out, List.take_length, List.drop_length, List.append_assoc]; rfl) | rfl)
                clear RT RDp
                go_wp2_with (at_builtin; refine wpList_app rfl (.tmp 47) (.tmp 50) 56 rfl w3.heap.size 9 (.string ⟨#[]⟩) 16 Try.underlying56 infoStr rfl (by omega) _ _ _ (strs (l.take m)) rfl rfl ON RT1 (strs_one _) LT.out LX.out ?_; intro v4 w4 o4 g4 _)
                have x4 := ((Ext.refl w3).alloc (.cells #[] 9)).grown g4 ON.lo
                have X4 := Lib.hid x4
                have HO4 : Hid (Own w4 w3.heap.size 9 v4 (strs (l.take m))) := o4
                have XL := Lib.hid (((Ext.refl w4).alloc (.cells #[.string (tx U)] 9)).drew)
                have XL3 := Lib.hid (X4.out.trans XL.out)
                have RL : Hid (∀ W : World, Reads (W.alloc (.cells #[.string (tx U)] 9)) (.slice (some ⟨W.heap.size, 0, none⟩) 1 1) (strs [tx U])) := fun W => (Own.lit W 0 9 #[.string (tx U)] (Nat.zero_le _) (by show 1 ≤ maxLen; decide)).reads
                clear o4 g4 x4 ON RT1
                have LO4 := Lib.hid HO4.out.lo
                obtain ⟨A4, c4, rfl, _, _⟩ := HO4.out.reads
                go_wp2_with fail
                go_region_held3 (fun w' => Ext w3 w')
                  (first | with_reducible exact X4.out.drew | with_reducible exact XL3.out | with_reducible exact x6 | with_reducible exact x5 | fail)
                  (first
                    | (refine step_app (by rfl) (.tmp 52) (.tmp 54) 56 (by rfl) w3.heap.size 9 (.string ⟨#[]⟩) 16 Try.underlying56 infoStr rfl (by omega) _ _ (strs (l.take m)) (strs [tx U]) (by rfl) (by rfl) (HO4.out.ext XL.out) ((RL.out w4).ext (Ext.refl _).drew) (strs_one _) LU1.out XL3.out.size ?_; intro v5 w5 o5 g5 _; rw [strs_append] at o5; have x5 := XL3.out.grown g5 LO4.out; obtain ⟨A5, c5, rfl, _, _⟩ := o5.reads)
                    | (refine step_app (by rfl) (.tmp 55) (.tmp 58) 56 (by rfl) w3.heap.size 9 (.string ⟨#[]⟩) 16 Try.underlying56 infoStr rfl (by omega) _ _ (strs (l.take m ++ [tx U])) (strs (l.drop m)) (by rfl) (by rfl) o5 (RDh.out.ext x5) (strs_one _) LU2.out x5.size ?_; intro v6 w6 o6 g6 _; rw [EQ.out] at o6; have x6 := x5.grown g6 o5.lo; obtain ⟨A6, c6, rfl, _, _⟩ := o6.reads)
                    | fail)
                have O6 := Lib.hid (o6.mono (HX2.out.trans HX3.out).size)
                have X6 := Lib.hid (HX3.out.trans x6)
                clear o6 x6 g6 o5 x5 g5
                go_wp2_with fail
                exact ⟨⟨j + 1, by omega, by go_num, by rw [HM.out]; exact O6.out, X6.out⟩, by simp [intOf]; omega⟩
            · obtain rfl : m = l.length := by omega
              have m0 : (0 : Int) ≤ l.length := by omega
              have m1 : ¬ ((l.length : Int) < l.length) := by omega
              have IA : Hid (ins (tx U) l = l.take l.length ++ tx U :: l.drop l.length) := ins_at (tx U) l l.length (Nat.le_refl _) HB.out (fun z hz => by rw [List.getElem?_eq_none (Nat.le_refl _)] at hz; cases hz)
              have b2 : (l.length : Int) ≤ c3 := by omega
              by_cases b0 : c3 = 0
              · subst b0
                obtain rfl : l = [] := List.length_eq_zero_iff.1 (by omega)
                simp only [List.length_nil, List.take_nil, List.drop_nil] at *
                obtain ⟨⟨A', RT, eT⟩, ⟨A'', RDp, eD⟩⟩ := cutS R3.out (strs_length []) 0 (Nat.le_refl _) (Nat.le_refl _)
                rw [if_pos rfl] at eT eD
                rw [eT] at RT
                rw [eD] at RDp
                clear eT eD
                have RT : Reads w3 (.slice A3 0 0) (strs ([] : List ByteArray)) := RT
                have RDp : Reads w3 (.slice A3 0 0) (strs ([] : List ByteArray)) := RDp
                have ON : Own (w3.alloc (.cells #[] 9)) w3.heap.size 9 (.slice (some ⟨w3.heap.size, 0, none⟩) 0 0) (strs []) := Own.lit w3 w3.heap.size 9 #[] (Nat.le_refl _) (by show 0 ≤ maxLen; decide)
                have LT : Hid (((strs []).length + (strs (([] : List ByteArray))).length) * 16 ≤ 140737488355328) := by show _ ≤ _; simp only [strs_length, List.length_take, List.length_nil]; omega
                have LX := Lib.hid ((Ext.refl w3).alloc (.cells #[] 9)).size
                have RT1 := RT.ext ((Ext.refl w3).alloc (.cells #[] 9))
                have RDh := Lib.hid RDp
                have LU1 : Hid (((strs (([] : List ByteArray))).length + (strs [tx U]).length) * 16 ≤ 140737488355328) := by show _ ≤ _; simp only [strs_length, List.length_take, List.length_nil, List.length_singleton]; omega
                have LU2 : Hid (((strs (([] : List ByteArray) ++ [tx U])).length + (strs (([] : List ByteArray))).length) * 16 ≤ 140737488355328) := by show _ ≤ _; simp only [strs_length, List.length_append, List.length_take, List.length_drop, List.length_nil, List.length_singleton]; omega
                have EQ : Hid (strs (([] : List ByteArray) ++ [tx U]) ++ strs (([] : List ByteArray)) = strs (ins (tx U) ([] : List ByteArray))) := by show _ = _; rw [strs_append]; exact congrArg strs (by first | (rw [IA.out, List.append_assoc]; rfl) | (rw [IA.out, List.take_length, List.drop_length, List.append_assoc]; rfl) | rfl)
                clear RT RDp
                go_wp2_with (at_builtin; refine wpList_app rfl (.tmp 47) (.tmp 50) 56 rfl w3.heap.size 9 (.string ⟨#[]⟩) 16 Try.underlying56 infoStr rfl (by omega) _ _ _ (strs (([] : List ByteArray))) rfl rfl ON RT1 (strs_one _) LT.out LX.out ?_; intro v4 w4 o4 g4 _)
                have x4 := ((Ext.refl w3).alloc (.cells #[] 9)).grown g4 ON.lo
                have X4 := Lib.hid x4
                have HO4 : Hid (Own w4 w3.heap.size 9 v4 (strs (([] : List ByteArray)))) := o4
                have XL := Lib.hid (((Ext.refl w4).alloc (.cells #[.string (tx U)] 9)).drew)
                have XL3 := Lib.hid (X4.out.trans XL.out)
                have RL : Hid (∀ W : World, Reads (W.alloc (.cells #[.string (tx U)] 9)) (.slice (some ⟨W.heap.size, 0, none⟩) 1 1) (strs [tx U])) := fun W => (Own.lit W 0 9 #[.string (tx U)] (Nat.zero_le _) (by show 1 ≤ maxLen; decide)).reads
                clear o4 g4 x4 ON RT1
                have LO4 := Lib.hid HO4.out.lo
                obtain ⟨A4, c4, rfl, _, _⟩ := HO4.out.reads
                go_wp2_with fail
                go_region_held3 (fun w' => Ext w3 w')
                  (first | with_reducible exact X4.out.drew | with_reducible exact XL3.out | with_reducible exact x6 | with_reducible exact x5 | fail)
                  (first
                    | (refine step_app (by rfl) (.tmp 52) (.tmp 54) 56 (by rfl) w3.heap.size 9 (.string ⟨#[]⟩) 16 Try.underlying56 infoStr rfl (by omega) _ _ (strs (([] : List ByteArray))) (strs [tx U]) (by rfl) (by rfl) (HO4.out.ext XL.out) ((RL.out w4).ext (Ext.refl _).drew) (strs_one _) LU1.out XL3.out.size ?_; intro v5 w5 o5 g5 _; rw [strs_append] at o5; have x5 := XL3.out.grown g5 LO4.out; obtain ⟨A5, c5, rfl, _, _⟩ := o5.reads)
                    | (refine step_app (by rfl) (.tmp 55) (.tmp 58) 56 (by rfl) w3.heap.size 9 (.string ⟨#[]⟩) 16 Try.underlying56 infoStr rfl (by omega) _ _ (strs (([] : List ByteArray) ++ [tx U])) (strs (([] : List ByteArray))) (by rfl) (by rfl) o5 (RDh.out.ext x5) (strs_one _) LU2.out x5.size ?_; intro v6 w6 o6 g6 _; rw [EQ.out] at o6; have x6 := x5.grown g6 o5.lo; obtain ⟨A6, c6, rfl, _, _⟩ := o6.reads)
                    | fail)
                have O6 := Lib.hid (o6.mono (HX2.out.trans HX3.out).size)
                have X6 := Lib.hid (HX3.out.trans x6)
                clear o6 x6 g6 o5 x5 g5
                go_wp2_with fail
                exact ⟨⟨j + 1, by omega, by go_num, by rw [HM.out]; exact O6.out, X6.out⟩, by simp [intOf]; omega⟩
              · have hA3 : A3 ≠ none := fun h => b0 (hz3 h)
                obtain ⟨ad3, rfl⟩ : ∃ ad, A3 = some ad := Option.ne_none_iff_exists'.1 hA3
                clear hA3 hz3
                by_cases b1 : c3 = l.length
                · subst b1
                  obtain ⟨⟨A', RT, eT⟩, ⟨A'', RDp, eD⟩⟩ := cutS R3.out (strs_length l) l.length (Nat.le_refl _) (Nat.le_refl _)
                  rw [if_neg b0, show Option.map (fun x => Go.Addr.add x (0 * 1)) (some ad3) = some ad3 by simp [Go.Addr.add]] at eT
                  rw [if_pos rfl] at eD
                  subst eT eD
                  rw [← strs_take, List.take_length] at RT
                  rw [← strs_drop, Nat.sub_self, List.drop_length] at RDp
                  have ON : Own (w3.alloc (.cells #[] 9)) w3.heap.size 9 (.slice (some ⟨w3.heap.size, 0, none⟩) 0 0) (strs []) := Own.lit w3 w3.heap.size 9 #[] (Nat.le_refl _) (by show 0 ≤ maxLen; decide)
                  have LT : Hid (((strs []).length + (strs (l)).length) * 16 ≤ 140737488355328) := by show _ ≤ _; simp only [strs_length, List.length_take, List.length_nil]; omega
                  have LX := Lib.hid ((Ext.refl w3).alloc (.cells #[] 9)).size
                  have RT1 := RT.ext ((Ext.refl w3).alloc (.cells #[] 9))
                  have RDh := Lib.hid RDp
                  have LU1 : Hid (((strs (l)).length + (strs [tx U]).length) * 16 ≤ 140737488355328) := by show _ ≤ _; simp only [strs_length, List.length_take, List.length_nil, List.length_singleton]; omega
                  have LU2 : Hid (((strs (l ++ [tx U])).length + (strs ([])).length) * 16 ≤ 140737488355328) := by show _ ≤ _; simp only [strs_length, List.length_append, List.length_take, List.length_drop, List.length_nil, List.length_singleton]; omega
                  have EQ : Hid (strs (l ++ [tx U]) ++ strs ([]) = strs (ins (tx U) l)) := by show _ = _; rw [strs_append]; exact congrArg strs (by first | (rw [IA.out, List.append_assoc]; rfl) | (rw [IA.out, List.take_length, List.drop_length, List.append_assoc]; rfl) | rfl)
                  clear RT RDp
                  go_wp2_with (at_builtin; refine wpList_app rfl (.tmp 47) (.tmp 50) 56 rfl w3.heap.size 9 (.string ⟨#[]⟩) 16 Try.underlying56 infoStr rfl (by omega) _ _ _ (strs (l)) rfl rfl ON RT1 (strs_one _) LT.out LX.out ?_; intro v4 w4 o4 g4 _)
                  have x4 := ((Ext.refl w3).alloc (.cells #[] 9)).grown g4 ON.lo
                  have X4 := Lib.hid x4
                  have HO4 : Hid (Own w4 w3.heap.size 9 v4 (strs (l))) := o4
                  have XL := Lib.hid (((Ext.refl w4).alloc (.cells #[.string (tx U)] 9)).drew)
                  have XL3 := Lib.hid (X4.out.trans XL.out)
                  have RL : Hid (∀ W : World, Reads (W.alloc (.cells #[.string (tx U)] 9)) (.slice (some ⟨W.heap.size, 0, none⟩) 1 1) (strs [tx U])) := fun W => (Own.lit W 0 9 #[.string (tx U)] (Nat.zero_le _) (by show 1 ≤ maxLen; decide)).reads
                  clear o4 g4 x4 ON RT1
                  have LO4 := Lib.hid HO4.out.lo
                  obtain ⟨A4, c4, rfl, _, _⟩ := HO4.out.reads
                  go_wp2_with fail
                  go_region_held3 (fun w' => Ext w3 w')
                    (first | with_reducible exact X4.out.drew | with_reducible exact XL3.out | with_reducible exact x6 | with_reducible exact x5 | fail)
                    (first
                      | (refine step_app (by rfl) (.tmp 52) (.tmp 54) 56 (by rfl) w3.heap.size 9 (.string ⟨#[]⟩) 16 Try.underlying56 infoStr rfl (by omega) _ _ (strs (l)) (strs [tx U]) (by rfl) (by rfl) (HO4.out.ext XL.out) ((RL.out w4).ext (Ext.refl _).drew) (strs_one _) LU1.out XL3.out.size ?_; intro v5 w5 o5 g5 _; rw [strs_append] at o5; have x5 := XL3.out.grown g5 LO4.out; obtain ⟨A5, c5, rfl, _, _⟩ := o5.reads)
                      | (refine step_app (by rfl) (.tmp 55) (.tmp 58) 56 (by rfl) w3.heap.size 9 (.string ⟨#[]⟩) 16 Try.underlying56 infoStr rfl (by omega) _ _ (strs (l ++ [tx U])) (strs ([])) (by rfl) (by rfl) o5 (RDh.out.ext x5) (strs_one _) LU2.out x5.size ?_; intro v6 w6 o6 g6 _; rw [EQ.out] at o6; have x6 := x5.grown g6 o5.lo; obtain ⟨A6, c6, rfl, _, _⟩ := o6.reads)
                      | fail)
                  have O6 := Lib.hid (o6.mono (HX2.out.trans HX3.out).size)
                  have X6 := Lib.hid (HX3.out.trans x6)
                  clear o6 x6 g6 o5 x5 g5
                  go_wp2_with fail
                  exact ⟨⟨j + 1, by omega, by go_num, by rw [HM.out]; exact O6.out, X6.out⟩, by simp [intOf]; omega⟩
                · obtain ⟨⟨A', RT, eT⟩, ⟨A'', RDp, eD⟩⟩ := cutS R3.out (strs_length l) l.length (Nat.le_refl _) (by omega)
                  rw [if_neg b0, show Option.map (fun x => Go.Addr.add x (0 * 1)) (some ad3) = some ad3 by simp [Go.Addr.add]] at eT
                  rw [if_neg b1, show Option.map (fun x => Go.Addr.add x (l.length * 1)) (some ad3) = some (ad3.add l.length) by simp] at eD
                  subst eT eD
                  rw [← strs_take, List.take_length] at RT
                  rw [← strs_drop, Nat.sub_self, List.drop_length] at RDp
                  have ON : Own (w3.alloc (.cells #[] 9)) w3.heap.size 9 (.slice (some ⟨w3.heap.size, 0, none⟩) 0 0) (strs []) := Own.lit w3 w3.heap.size 9 #[] (Nat.le_refl _) (by show 0 ≤ maxLen; decide)
                  have LT : Hid (((strs []).length + (strs (l)).length) * 16 ≤ 140737488355328) := by show _ ≤ _; simp only [strs_length, List.length_take, List.length_nil]; omega
                  have LX := Lib.hid ((Ext.refl w3).alloc (.cells #[] 9)).size
                  have RT1 := RT.ext ((Ext.refl w3).alloc (.cells #[] 9))
                  have RDh := Lib.hid RDp
                  have LU1 : Hid (((strs (l)).length + (strs [tx U]).length) * 16 ≤ 140737488355328) := by show _ ≤ _; simp only [strs_length, List.length_take, List.length_nil, List.length_singleton]; omega
                  have LU2 : Hid (((strs (l ++ [tx U])).length + (strs ([])).length) * 16 ≤ 140737488355328) := by show _ ≤ _; simp only [strs_length, List.length_append, List.length_take, List.length_drop, List.length_nil, List.length_singleton]; omega
                  have EQ : Hid (strs (l ++ [tx U]) ++ strs ([]) = strs (ins (tx U) l)) := by show _ = _; rw [strs_append]; exact congrArg strs (by first | (rw [IA.out, List.append_assoc]; rfl) | (rw [IA.out, List.take_length, List.drop_length, List.append_assoc]; rfl) | rfl)
                  clear RT RDp
                  go_wp2_with (at_builtin; refine wpList_app rfl (.tmp 47) (.tmp 50) 56 rfl w3.heap.size 9 (.string ⟨#[]⟩) 16 Try.underlying56 infoStr rfl (by omega) _ _ _ (strs (l)) rfl rfl ON RT1 (strs_one _) LT.out LX.out ?_; intro v4 w4 o4 g4 _)
                  have x4 := ((Ext.refl w3).alloc (.cells #[] 9)).grown g4 ON.lo
                  have X4 := Lib.hid x4
                  have HO4 : Hid (Own w4 w3.heap.size 9 v4 (strs (l))) := o4
                  have XL := Lib.hid (((Ext.refl w4).alloc (.cells #[.string (tx U)] 9)).drew)
                  have XL3 := Lib.hid (X4.out.trans XL.out)
                  have RL : Hid (∀ W : World, Reads (W.alloc (.cells #[.string (tx U)] 9)) (.slice (some ⟨W.heap.size, 0, none⟩) 1 1) (strs [tx U])) := fun W => (Own.lit W 0 9 #[.string (tx U)] (Nat.zero_le _) (by show 1 ≤ maxLen; decide)).reads
                  clear o4 g4 x4 ON RT1
                  have LO4 := Lib.hid HO4.out.lo
                  obtain ⟨A4, c4, rfl, _, _⟩ := HO4.out.reads
                  go_wp2_with fail
                  go_region_held3 (fun w' => Ext w3 w')
                    (first | with_reducible exact X4.out.drew | with_reducible exact XL3.out | with_reducible exact x6 | with_reducible exact x5 | fail)
                    (first
                      | (refine step_app (by rfl) (.tmp 52) (.tmp 54) 56 (by rfl) w3.heap.size 9 (.string ⟨#[]⟩) 16 Try.underlying56 infoStr rfl (by omega) _ _ (strs (l)) (strs [tx U]) (by rfl) (by rfl) (HO4.out.ext XL.out) ((RL.out w4).ext (Ext.refl _).drew) (strs_one _) LU1.out XL3.out.size ?_; intro v5 w5 o5 g5 _; rw [strs_append] at o5; have x5 := XL3.out.grown g5 LO4.out; obtain ⟨A5, c5, rfl, _, _⟩ := o5.reads)
                      | (refine step_app (by rfl) (.tmp 55) (.tmp 58) 56 (by rfl) w3.heap.size 9 (.string ⟨#[]⟩) 16 Try.underlying56 infoStr rfl (by omega) _ _ (strs (l ++ [tx U])) (strs ([])) (by rfl) (by rfl) o5 (RDh.out.ext x5) (strs_one _) LU2.out x5.size ?_; intro v6 w6 o6 g6 _; rw [EQ.out] at o6; have x6 := x5.grown g6 o5.lo; obtain ⟨A6, c6, rfl, _, _⟩ := o6.reads)
                      | fail)
                  have O6 := Lib.hid (o6.mono (HX2.out.trans HX3.out).size)
                  have X6 := Lib.hid (HX3.out.trans x6)
                  clear o6 x6 g6 o5 x5 g5
                  go_wp2_with fail
                  exact ⟨⟨j + 1, by omega, by go_num, by rw [HM.out]; exact O6.out, X6.out⟩, by simp [intOf]; omega⟩
        · have g1 : (qs.length : Int) ≤ j := by omega
          obtain rfl : j = qs.length := by omega
          have EG : Hid (srt ((P ++ mvs bk T qs.length).map tx) = srt ((grp T (k + 1)).map tx)) := by show _ = _; rw [GS.out, MA.out]
          have HX5 := Lib.hid (HX2.out.trans HX.out)
          go_wp2_with fail
          exact ⟨⟨k + 1, by omega, by go_num, by rw [← EG.out]; exact HO.out, HX5.out⟩, by simp [intOf]; omega⟩
    · have h1 : ¬ (k : Int) < 2 := by omega
      obtain rfl : k = 2 := by omega
      go_wp2_with fail
      go_ret
      exact ⟨_, rfl, HO.out.mono X0.out.size, X0.out.trans HX.out⟩
end Go.Proofs.Ytijnadjgmmednaa.N
