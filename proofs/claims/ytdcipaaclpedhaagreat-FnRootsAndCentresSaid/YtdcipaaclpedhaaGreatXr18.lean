import Derived.Deep.CutRange
import Derived.Test.YtdcipaaclpedhaaGreatXr10
import Derived.Test.YtdcipaaclpedhaaGreatXr12
/- A part of the proof: lemmas that later parts use. -/
set_option linter.unusedVariables false
set_option linter.unusedSimpArgs false
namespace Go.Proofs.YtdcipaaclpedhaaGreat.N
open Go.RowKit
theorem strs_take2 (l : List ByteArray) (k : Nat) : strs (l.take k) = (strs l).take k := by simp [strs, List.map_take]
theorem strs_drop2 (l : List ByteArray) (k : Nat) : strs (l.drop k) = (strs l).drop k := by simp [strs, List.map_drop]
theorem cut2 {w : World} {ad : Addr} {n c : Nat} {l : List ByteArray} (h : Reads w (.slice (some ad) n c) (strs l)) (hn : l.length = n) (k : Nat) (hk : k < n) :
    Reads w (.slice (some ad) k c) (strs (l.take k)) ∧ Reads w (.slice (some (ad.add k)) (n - k) (c - k)) (strs (l.drop k)) := by
  obtain ⟨B, d, e, _, hr⟩ := h
  injection e with e1 e2 e3
  subst e1 e3
  clear e2
  obtain ⟨ad', e4, ca⟩ := hr (by rw [strs_length]; omega)
  injection e4 with e4
  subst e4
  refine ⟨⟨_, c, by rw [strs_length, List.length_take, hn, Nat.min_eq_left (by omega)], (fun h => by cases h), fun _ => ⟨ad, rfl, fun j u hu => ?_⟩⟩, ⟨_, c - k, by rw [strs_length, List.length_drop, hn], (fun h => by cases h), fun _ => ⟨_, rfl, fun j u hu => ?_⟩⟩⟩
  · rw [strs_take2] at hu
    have hj : j < k := by have := (List.getElem?_eq_some_iff.1 hu).1; rw [List.length_take] at this; omega
    rw [List.getElem?_take_of_lt hj] at hu
    exact ca j u hu
  · rw [strs_drop2, List.getElem?_drop] at hu
    rw [Go.Addr.add_add]
    exact ca (k + j) u hu
def mrg : List ByteArray → List ByteArray → List ByteArray
  | [], b => b
  | x :: a, [] => x :: a
  | x :: a, y :: b => if blt y x then y :: mrg (x :: a) b else x :: mrg a (y :: b)
termination_by a b => a.length + b.length
theorem mrg_nil : ∀ a, mrg a [] = a
  | [] => by rw [mrg]
  | x :: a => by rw [mrg]
theorem mrg_l (x : ByteArray) (a b : List ByteArray) (h : ∀ y, b[0]? = some y → blt y x = false) : mrg (x :: a) b = x :: mrg a b := by
  cases b with
  | nil => rw [mrg_nil, mrg_nil]
  | cons y b => rw [mrg, h y rfl]; rfl
theorem mrg_r (y : ByteArray) (a b : List ByteArray) (h : ∀ x, a[0]? = some x → blt y x = true) : mrg a (y :: b) = y :: mrg a b := by
  cases a with
  | nil => rw [mrg, mrg]
  | cons x a => rw [mrg, h x rfl]; rfl
theorem mrg_perm : ∀ a b, (mrg a b).Perm (a ++ b)
  | [], b => by rw [mrg]; exact List.Perm.refl _
  | x :: a, [] => by rw [mrg, List.append_nil]
  | x :: a, y :: b => by
    rw [mrg]
    split
    · exact ((mrg_perm (x :: a) b).cons y).trans (List.perm_middle (l₁ := x :: a)).symm
    · exact (mrg_perm a (y :: b)).cons x
termination_by a b => a.length + b.length
theorem mrg_srt : ∀ a b, Srt a → Srt b → Srt (mrg a b)
  | [], b, _, h => by rw [mrg]; exact h
  | x :: a, [], h, _ => by rw [mrg]; exact h
  | x :: a, y :: b, h1, h2 => by
    have p1 := List.pairwise_cons.1 h1
    have p2 := List.pairwise_cons.1 h2
    rw [mrg]
    split
    · rename_i hy
      refine List.pairwise_cons.2 ⟨fun z hz => ?_, mrg_srt (x :: a) b h1 p2.2⟩
      rcases List.mem_append.1 ((mrg_perm (x :: a) b).mem_iff.1 hz) with hz | hz
      · have hxy : blt x y = false := by
          cases h : blt x y with
          | false => rfl
          | true => have := blt_trans h hy; rw [blt_irrefl] at this; cases this
        rcases List.mem_cons.1 hz with rfl | hz
        · exact hxy
        · exact blt_ntrans (p1.1 z hz) hxy
      · exact p2.1 z hz
    · rename_i hy
      have hy : blt y x = false := by simpa using hy
      refine List.pairwise_cons.2 ⟨fun z hz => ?_, mrg_srt a (y :: b) p1.2 h2⟩
      rcases List.mem_append.1 ((mrg_perm a (y :: b)).mem_iff.1 hz) with hz | hz
      · exact p1.1 z hz
      · rcases List.mem_cons.1 hz with rfl | hz
        · exact hy
        · exact blt_ntrans (p2.1 z hz) hy
termination_by a b => a.length + b.length
theorem mrg_parts (l : List ByteArray) (k : Nat) : mrg (srt (l.take k)) (srt (l.drop k)) = srt l := by
  refine srt_unique _ _ ?_ (mrg_srt _ _ (srt_srt _) (srt_srt _)) (srt_srt l)
  refine (mrg_perm _ _).trans (List.Perm.trans ?_ (srt_perm l).symm)
  refine ((srt_perm _).append (srt_perm _)).trans ?_
  rw [List.take_append_drop]
theorem dropAtZero {α : Type} (l : List α) (r : Nat) : (l.drop r)[0]? = l[r]? := by rw [List.getElem?_drop, Nat.add_zero]
theorem srt_short (l : List ByteArray) (h : l.length < 2) : srt l = l := by
  match l, h with
  | [], _ => rfl
  | [a], _ => rfl
  | _ :: _ :: _, h => exact absurd h (by simp)
set_option maxHeartbeats 12800000 in
set_option maxRecDepth 100000 in
theorem lnSorted_calls (N : Nat) : ∀ (l : List ByteArray) (hl : l.length = N) (h1 : l.length ≤ 1000) (hd : l.Nodup) (A : Option Addr) (c : Nat) (hc : l.length ≤ c) (w : World) (hr : Reads w (.slice A l.length c) (strs l)),
    Calls Tryz.prog 67 #[.slice A l.length c] w fun e w' => ∃ v, e = .returned v ∧ Reads w' v (strs (srt l)) ∧ (v = .slice A l.length c ∨ ∀ k, v.ownBlock = some k → w.heap.size ≤ k ∧ k < w'.heap.size) ∧ Ext w w' := by
  induction N using Nat.strongRecOn with
  | _ N ih =>
  intro l hl h1 hd A c hc w hr
  by_cases hs : l.length < 2
  · have hr := Lib.hid hr
    have ES := Lib.hid (srt_short l hs)
    have hs' : (l.length : Int) < 2 := by omega
    clear ih
    go_enter Tryz.func67, Tryz.ntmps67
    go_wp2_with fail
    go_ret
    exact ⟨_, rfl, (by rw [ES.out]; exact hr.out), .inl rfl, Ext.refl _⟩
  · obtain ⟨k, hk⟩ : ∃ k, l.length / 2 = k := ⟨_, rfl⟩
    obtain ⟨ad, rfl⟩ : ∃ ad, A = some ad := by
      obtain ⟨B, d, e, _, hh⟩ := hr
      injection e with e1 _ _
      subst e1
      obtain ⟨ad, rfl, _⟩ := hh (by rw [strs_length]; omega)
      exact ⟨ad, rfl⟩
    obtain ⟨ra, rb⟩ := cut2 hr rfl k (by omega)
    have CA := Lib.hid (fun W (h : Ext w W) => ih k (by omega) (l.take k) (by rw [List.length_take]; omega) (by rw [List.length_take]; omega) (hd.sublist (List.take_sublist k l)) (some ad) c (by rw [List.length_take]; omega) W (by rw [List.length_take, Nat.min_eq_left (by omega)]; exact ra.ext h))
    have CB := Lib.hid (fun W (h : Ext w W) => ih (l.length - k) (by omega) (l.drop k) (by rw [List.length_drop]) (by rw [List.length_drop]; omega) (hd.sublist (List.drop_sublist k l)) (some (ad.add k)) (c - k) (by rw [List.length_drop]; omega) W (by rw [List.length_drop]; exact rb.ext h))
    rw [List.length_take, Nat.min_eq_left (by omega)] at CA
    rw [List.length_drop] at CB
    have MP := Lib.hid (mrg_parts l k)
    have MN : Hid (srt l).Nodup := (srt_perm l).nodup_iff.2 hd
    have LS := srt_length l
    have LA : (srt (l.take k)).length = k := by rw [srt_length, List.length_take]; omega
    have LB : (srt (l.drop k)).length = l.length - k := by rw [srt_length, List.length_drop]
    have s2 : ¬ ((l.length : Int) < 2) := by omega
    have sk : (l.length : Int) / 2 = (k : Int) := by omega
    have kb : (k : Int) ≤ l.length := by omega
    have kc : (k : Int) ≤ c := by omega
    have lc : (l.length : Int) ≤ c := by omega
    have sk2 : Int.tdiv (l.length : Int) 2 = (k : Int) := by rw [Int.tdiv_eq_ediv_of_nonneg (by omega)]; exact sk
    have k1000 : (k : Int) ≤ 1000 ∧ (l.length : Int) ≤ 1000 := by omega
    have hw2 : IntKind.i64.wrap (k : Int) = k := by simp [IntKind.wrap, IntKind.bits, IntKind.signed]; omega
    have b0 : ¬ c = 0 := by omega
    have b1 : ¬ c = k := by omega
    have k0 : (0 : Int) ≤ k := by omega
    subst hl
    clear ih ra rb hr
    generalize srt (l.take k) = a at *
    generalize srt (l.drop k) = b at *
    generalize srt l = M at *
    generalize l.length = n at *
    have X0 : Ext w w.drew := (Ext.refl w).drew
    go_enter Tryz.func67, Tryz.ntmps67
    go_wp2_with fail
    go_region_held3 (fun w' => Ext w w')
      (first | with_reducible exact X0 | with_reducible exact x1 | with_reducible exact x2 | fail)
      (first
        | (go_at_call 67; (with_reducible refine (CA.out _ X0).mono ?_); rintro e w1 ⟨v1, rfl, r1, _, hx1⟩; have x1 := X0.trans hx1)
        | (go_at_call 67; (with_reducible refine (CB.out _ x1).mono ?_); rintro e w2 ⟨v2, rfl, r2, _, hx2⟩; have x2 := x1.trans hx2)
        | fail)
    have RA := Lib.hid (r1.ext hx2)
    have RB := Lib.hid r2
    have X2 := Lib.hid x2
    obtain ⟨A1, c1, e1, _, _⟩ := r1
    obtain ⟨A2, c2, e2, _, _⟩ := r2
    rw [strs_length] at e1 e2
    subst e1 e2
    clear x1 x2 hx1 hx2 X0 CA CB
    have al : (a.length : Int) ≤ 1000 := by omega
    have bl : (b.length : Int) ≤ 1000 := by omega
    have ML : Hid (M.length = a.length + b.length) := by show _ = _; omega
    have lm : M.length ≤ 1000 := by omega
    clear LA LB LS
    go_wp2_with fail
    go_loopw [5, 6, 7] (fun o i j wr => ∃ p q : Nat, p ≤ a.length ∧ q ≤ b.length ∧ i = .int .i64 p ∧ j = .int .i64 q ∧ Hid (Own wr w2.heap.size 9 o (strs (M.take (p + q)))) ∧ Hid (mrg (a.drop p) (b.drop q) = M.drop (p + q)) ∧ Hid (Ext w2 wr)) (fun _ i j _ => a.length + b.length - ((intOf i).toNat + (intOf j).toNat))
    case atStart => exact ⟨0, 0, Nat.zero_le _, Nat.zero_le _, rfl, rfl, Own.nil _ _ _, MP.out, Ext.refl _⟩
    case round =>
      obtain ⟨p, q, hp, hq, rfl, rfl, HO, HM, HX⟩ := hrel
      have p0 : (0 : Int) ≤ p := by omega
      have q0 : (0 : Int) ≤ q := by omega
      obtain ⟨r, hr⟩ : ∃ r, p + q = r := ⟨_, rfl⟩
      rw [hr] at HO HM
      have HR := Lib.hid hr
      by_cases hpl : p < a.length
      · have p1 : (p : Int) < a.length := by omega
        have gx : a[p]? = some a[p] := List.getElem?_eq_getElem hpl
        obtain ⟨_, _, e1, _, ha⟩ := RA.out.ext HX.out
        injection e1 with e2 e4 e3
        subst e2 e3
        clear e4
        obtain ⟨ad1, rfl, ca⟩ := ha (by rw [strs_length]; omega)
        have cx := ca p _ (by rw [strs_get a p hpl])
        have DA : a.drop p = a[p] :: a.drop (p + 1) := List.drop_eq_getElem_cons hpl
        clear ca ha
        have HR := Lib.hid hr
        by_cases hql : q < b.length
        · have q1 : (q : Int) < b.length := by omega
          have q2 : ((q : Int) == b.length) = false := by simp; omega
          have q3 : decide ((q : Int) = b.length) = false := decide_eq_false (by omega)
          have q4 : decide (q = b.length) = false := decide_eq_false (by omega)
          obtain ⟨_, _, e1, _, hb⟩ := RB.out.ext HX.out
          injection e1 with e2 e4 e3
          subst e2 e3
          clear e4
          obtain ⟨ad2, rfl, cb⟩ := hb (by rw [strs_length]; omega)
          have cy := cb q _ (by rw [strs_get b q hql])
          have DB : b.drop q = b[q] :: b.drop (q + 1) := List.drop_eq_getElem_cons hql
          clear cb hb
          generalize a[p] = x at *
          generalize b[q] = y at *
          have KX : ∀ w', Ext wr w' → w'.cell? (ad1.add p) = some (.string x) ∧ w'.cell? (ad2.add q) = some (.string y) := fun w' h => ⟨h.cell cx, h.cell cy⟩
          cases hxy : blt y x with
          | false =>
            have MX := HM.out
            rw [DA, mrg_l x _ _ (fun z hz => by rw [DB] at hz; injection hz with hz; rw [← hz]; exact hxy)] at MX
            have MZ : Hid (M[r]? = some x) := by show _ = _; rw [← dropAtZero, ← MX]; rfl
            have MD : Hid (mrg (a.drop (p + 1)) (b.drop q) = M.drop (r + 1)) := by show _ = _; rw [← List.tail_drop (i := r), ← MX]; rfl
            have hg : (Op.bytesLess x.toList y.toList || x.toList == y.toList) = true := gtr_false hxy
            clear MX DA DB gx hxy hr
            go_wp2_with fail
            go_quiet (fail)
            have HO := Lib.hid (HO.out.ext ((Ext.refl wr).drewN nq))
            have HX := Lib.hid (HX.out.drewN nq)
            have cc := KX _ ((Ext.refl wr).drewN nq)
            have cx := cc.1
            have cy := cc.2
            clear KX cc
            generalize wr.drewN nq = wd at *
            have MG : M[r]? = some x := MZ.out
            have rM : r < M.length := (List.getElem?_eq_some_iff.1 MG).1
            have MT : Hid (strs (M.take r) ++ strs [x] = strs (M.take (r + 1))) := by
              show _ = _
              rw [strs_append, List.take_add_one, MG]; rfl
            have LT : (M.take r).length = r := by rw [List.length_take]; omega
            have HO1 := HO.out
            clear HO
            obtain ⟨A5, c5, e5, _, rd5⟩ := HO1.reads
            rw [strs_length, LT] at e5 rd5
            subst e5
            have HO := Lib.hid HO1
            clear HO1
            have R3 := Lib.hid (fun W : World => lit_readsS W x)
            have LL : Hid (((strs (M.take r)).length + (strs [x]).length) * 16 ≤ 140737488355328) := by
              show _ ≤ _
              rw [strs_length, LT, strs_length]; simp only [List.length_singleton]; omega
            have O3 := HO.out.ext ((Ext.refl wd).alloc (.cells #[.string x] 9))
            have X3 := HX.out.alloc (.cells #[.string x] 9)
            have R3 := lit_readsS wd x
            have B3 := Lib.hid X3.size
            rcases Nat.eq_zero_or_pos r with hr0 | hr0
            · have r0 : (r : Int) = 0 := by omega
              have r00 : ((r : Int) == 0) = true := by rw [r0]; rfl
              go_wp2_with (at_builtin; refine wpList_app rfl (.tmp 81) (.tmp 83) 78 rfl w2.heap.size 9 (.string ⟨#[]⟩) 16 Tryz.underlying78 infoStr rfl (by omega) _ _ _ (strs [x]) rfl rfl O3 R3 (strs_one _) LL.out B3.out ?_; intro v4 w4 o4 g4 q4)
              have X4 := Lib.hid (X3.grown g4 O3.lo)
              rw [MT.out] at o4
              have O4 := Lib.hid o4
              clear o4 g4 q4 O3 X3 R3
              go_wp2_with fail
              exact ⟨⟨p + 1, q, by omega, by omega, by go_num, rfl, (by rw [show p + 1 + q = r + 1 by have := HR.out; omega]; exact O4.out), (by rw [show p + 1 + q = r + 1 by have := HR.out; omega]; exact MD.out), X4.out⟩, by simp [intOf]; omega⟩
            · obtain ⟨ad5, rfl, ca5⟩ := rd5 (by omega)
              obtain ⟨t, rfl⟩ : ∃ t, r = t + 1 := ⟨r - 1, by omega⟩
              have hm : M[t]? = some M[t] := List.getElem?_eq_getElem (by omega)
              have ct := ca5 t (.string M[t]) (by simp [strs, List.getElem?_take, hm])
              have hne : ¬ M[t] = x := fun h => (List.pairwise_iff_getElem.1 MN.out t (t + 1) (by omega) rM (by omega)) (h.trans (List.getElem?_eq_some_iff.1 MG).2.symm)
              have r0 : (((t + 1 : Nat) : Int) == 0) = false := by simp; omega
              have r1 : (0 : Int) ≤ t ∧ (t : Int) < ((t + 1 : Nat) : Int) := by omega
              have hnl : (M[t].toList == x.toList) = false := by
                cases h : (M[t].toList == x.toList) with
                | false => rfl
                | true => exact absurd (ba_ext (eq_of_beq h)) hne
              generalize M[t] = u at *
              go_wp2_with (at_builtin; refine wpList_app rfl (.tmp 81) (.tmp 83) 78 rfl w2.heap.size 9 (.string ⟨#[]⟩) 16 Tryz.underlying78 infoStr rfl (by omega) _ _ _ (strs [x]) rfl rfl O3 R3 (strs_one _) LL.out B3.out ?_; intro v4 w4 o4 g4 q4)
              have X4 := Lib.hid (X3.grown g4 O3.lo)
              rw [MT.out] at o4
              have O4 := Lib.hid o4
              clear o4 g4 q4 O3 X3 R3
              go_wp2_with fail
              exact ⟨⟨p + 1, q, by omega, by omega, by go_num, rfl, (by rw [show p + 1 + q = t + 1 + 1 by have := HR.out; omega]; exact O4.out), (by rw [show p + 1 + q = t + 1 + 1 by have := HR.out; omega]; exact MD.out), X4.out⟩, by simp [intOf]; omega⟩
          | true =>
            have MX := HM.out
            rw [DB, mrg_r y _ _ (fun z hz => by rw [DA] at hz; injection hz with hz; rw [← hz]; exact hxy)] at MX
            have MZ : Hid (M[r]? = some y) := by show _ = _; rw [← dropAtZero, ← MX]; rfl
            have MD : Hid (mrg (a.drop p) (b.drop (q + 1)) = M.drop (r + 1)) := by show _ = _; rw [← List.tail_drop (i := r), ← MX]; rfl
            have hg : (Op.bytesLess x.toList y.toList || x.toList == y.toList) = false := gtr_true hxy
            clear MX DA DB gx hxy hr
            go_wp2_with fail
            go_quiet (fail)
            have HO := Lib.hid (HO.out.ext ((Ext.refl wr).drewN nq))
            have HX := Lib.hid (HX.out.drewN nq)
            have cc := KX _ ((Ext.refl wr).drewN nq)
            have cx := cc.1
            have cy := cc.2
            clear KX cc
            generalize wr.drewN nq = wd at *
            have MG : M[r]? = some y := MZ.out
            have rM : r < M.length := (List.getElem?_eq_some_iff.1 MG).1
            have MT : Hid (strs (M.take r) ++ strs [y] = strs (M.take (r + 1))) := by
              show _ = _
              rw [strs_append, List.take_add_one, MG]; rfl
            have LT : (M.take r).length = r := by rw [List.length_take]; omega
            have HO1 := HO.out
            clear HO
            obtain ⟨A5, c5, e5, _, rd5⟩ := HO1.reads
            rw [strs_length, LT] at e5 rd5
            subst e5
            have HO := Lib.hid HO1
            clear HO1
            have R3 := Lib.hid (fun W : World => lit_readsS W y)
            have LL : Hid (((strs (M.take r)).length + (strs [y]).length) * 16 ≤ 140737488355328) := by
              show _ ≤ _
              rw [strs_length, LT, strs_length]; simp only [List.length_singleton]; omega
            have O3 := HO.out.ext ((Ext.refl wd).alloc (.cells #[.string y] 9))
            have X3 := HX.out.alloc (.cells #[.string y] 9)
            have R3 := lit_readsS wd y
            have B3 := Lib.hid X3.size
            rcases Nat.eq_zero_or_pos r with hr0 | hr0
            · have r0 : (r : Int) = 0 := by omega
              have r00 : ((r : Int) == 0) = true := by rw [r0]; rfl
              go_wp2_with (at_builtin; refine wpList_app rfl (.tmp 81) (.tmp 83) 78 rfl w2.heap.size 9 (.string ⟨#[]⟩) 16 Tryz.underlying78 infoStr rfl (by omega) _ _ _ (strs [y]) rfl rfl O3 R3 (strs_one _) LL.out B3.out ?_; intro v4 w4 o4 g4 q4)
              have X4 := Lib.hid (X3.grown g4 O3.lo)
              rw [MT.out] at o4
              have O4 := Lib.hid o4
              clear o4 g4 q4 O3 X3 R3
              go_wp2_with fail
              exact ⟨⟨p, q + 1, by omega, by omega, rfl, by go_num, (by rw [show p + (q + 1) = r + 1 by have := HR.out; omega]; exact O4.out), (by rw [show p + (q + 1) = r + 1 by have := HR.out; omega]; exact MD.out), X4.out⟩, by simp [intOf]; omega⟩
            · obtain ⟨ad5, rfl, ca5⟩ := rd5 (by omega)
              obtain ⟨t, rfl⟩ : ∃ t, r = t + 1 := ⟨r - 1, by omega⟩
              have hm : M[t]? = some M[t] := List.getElem?_eq_getElem (by omega)
              have ct := ca5 t (.string M[t]) (by simp [strs, List.getElem?_take, hm])
              have hne : ¬ M[t] = y := fun h => (List.pairwise_iff_getElem.1 MN.out t (t + 1) (by omega) rM (by omega)) (h.trans (List.getElem?_eq_some_iff.1 MG).2.symm)
              have r0 : (((t + 1 : Nat) : Int) == 0) = false := by simp; omega
              have r1 : (0 : Int) ≤ t ∧ (t : Int) < ((t + 1 : Nat) : Int) := by omega
              have hnl : (M[t].toList == y.toList) = false := by
                cases h : (M[t].toList == y.toList) with
                | false => rfl
                | true => exact absurd (ba_ext (eq_of_beq h)) hne
              generalize M[t] = u at *
              go_wp2_with (at_builtin; refine wpList_app rfl (.tmp 81) (.tmp 83) 78 rfl w2.heap.size 9 (.string ⟨#[]⟩) 16 Tryz.underlying78 infoStr rfl (by omega) _ _ _ (strs [y]) rfl rfl O3 R3 (strs_one _) LL.out B3.out ?_; intro v4 w4 o4 g4 q4)
              have X4 := Lib.hid (X3.grown g4 O3.lo)
              rw [MT.out] at o4
              have O4 := Lib.hid o4
              clear o4 g4 q4 O3 X3 R3
              go_wp2_with fail
              exact ⟨⟨p, q + 1, by omega, by omega, rfl, by go_num, (by rw [show p + (q + 1) = t + 1 + 1 by have := HR.out; omega]; exact O4.out), (by rw [show p + (q + 1) = t + 1 + 1 by have := HR.out; omega]; exact MD.out), X4.out⟩, by simp [intOf]; omega⟩
        · have q1 : (b.length : Int) ≤ q := by omega
          obtain rfl : q = b.length := by omega
          have q2 : ((b.length : Int) == b.length) = true := by simp
          generalize a[p] = x at *
          have KX : ∀ w', Ext wr w' → w'.cell? (ad1.add p) = some (.string x) := fun w' h => h.cell cx
          have MX := HM.out
          rw [DA, mrg_l x _ _ (fun z hz => by rw [List.drop_length] at hz; cases hz)] at MX
          have MZ : Hid (M[r]? = some x) := by show _ = _; rw [← dropAtZero, ← MX]; rfl
          have MD : Hid (mrg (a.drop (p + 1)) (b.drop b.length) = M.drop (r + 1)) := by show _ = _; rw [← List.tail_drop (i := r), ← MX]; rfl
          clear MX DA gx hr
          go_wp2_with fail
          go_quiet (fail)
          have HO := Lib.hid (HO.out.ext ((Ext.refl wr).drewN nq))
          have HX := Lib.hid (HX.out.drewN nq)
          have cc := KX _ ((Ext.refl wr).drewN nq)
          have cx := cc
          clear KX cc
          generalize wr.drewN nq = wd at *
          have MG : M[r]? = some x := MZ.out
          have rM : r < M.length := (List.getElem?_eq_some_iff.1 MG).1
          have MT : Hid (strs (M.take r) ++ strs [x] = strs (M.take (r + 1))) := by
            show _ = _
            rw [strs_append, List.take_add_one, MG]; rfl
          have LT : (M.take r).length = r := by rw [List.length_take]; omega
          have HO1 := HO.out
          clear HO
          obtain ⟨A5, c5, e5, _, rd5⟩ := HO1.reads
          rw [strs_length, LT] at e5 rd5
          subst e5
          have HO := Lib.hid HO1
          clear HO1
          have R3 := Lib.hid (fun W : World => lit_readsS W x)
          have LL : Hid (((strs (M.take r)).length + (strs [x]).length) * 16 ≤ 140737488355328) := by
            show _ ≤ _
            rw [strs_length, LT, strs_length]; simp only [List.length_singleton]; omega
          have O3 := HO.out.ext ((Ext.refl wd).alloc (.cells #[.string x] 9))
          have X3 := HX.out.alloc (.cells #[.string x] 9)
          have R3 := lit_readsS wd x
          have B3 := Lib.hid X3.size
          rcases Nat.eq_zero_or_pos r with hr0 | hr0
          · have r0 : (r : Int) = 0 := by omega
            have r00 : ((r : Int) == 0) = true := by rw [r0]; rfl
            go_wp2_with (at_builtin; refine wpList_app rfl (.tmp 81) (.tmp 83) 78 rfl w2.heap.size 9 (.string ⟨#[]⟩) 16 Tryz.underlying78 infoStr rfl (by omega) _ _ _ (strs [x]) rfl rfl O3 R3 (strs_one _) LL.out B3.out ?_; intro v4 w4 o4 g4 q4)
            have X4 := Lib.hid (X3.grown g4 O3.lo)
            rw [MT.out] at o4
            have O4 := Lib.hid o4
            clear o4 g4 q4 O3 X3 R3
            go_wp2_with fail
            exact ⟨⟨p + 1, b.length, by omega, by omega, by go_num, rfl, (by rw [show p + 1 + b.length = r + 1 by have := HR.out; omega]; exact O4.out), (by rw [show p + 1 + b.length = r + 1 by have := HR.out; omega]; exact MD.out), X4.out⟩, by simp [intOf]; omega⟩
          · obtain ⟨ad5, rfl, ca5⟩ := rd5 (by omega)
            obtain ⟨t, rfl⟩ : ∃ t, r = t + 1 := ⟨r - 1, by omega⟩
            have hm : M[t]? = some M[t] := List.getElem?_eq_getElem (by omega)
            have ct := ca5 t (.string M[t]) (by simp [strs, List.getElem?_take, hm])
            have hne : ¬ M[t] = x := fun h => (List.pairwise_iff_getElem.1 MN.out t (t + 1) (by omega) rM (by omega)) (h.trans (List.getElem?_eq_some_iff.1 MG).2.symm)
            have r0 : (((t + 1 : Nat) : Int) == 0) = false := by simp; omega
            have r1 : (0 : Int) ≤ t ∧ (t : Int) < ((t + 1 : Nat) : Int) := by omega
            have hnl : (M[t].toList == x.toList) = false := by
              cases h : (M[t].toList == x.toList) with
              | false => rfl
              | true => exact absurd (ba_ext (eq_of_beq h)) hne
            generalize M[t] = u at *
            go_wp2_with (at_builtin; refine wpList_app rfl (.tmp 81) (.tmp 83) 78 rfl w2.heap.size 9 (.string ⟨#[]⟩) 16 Tryz.underlying78 infoStr rfl (by omega) _ _ _ (strs [x]) rfl rfl O3 R3 (strs_one _) LL.out B3.out ?_; intro v4 w4 o4 g4 q4)
            have X4 := Lib.hid (X3.grown g4 O3.lo)
            rw [MT.out] at o4
            have O4 := Lib.hid o4
            clear o4 g4 q4 O3 X3 R3
            go_wp2_with fail
            exact ⟨⟨p + 1, b.length, by omega, by omega, by go_num, rfl, (by rw [show p + 1 + b.length = t + 1 + 1 by have := HR.out; omega]; exact O4.out), (by rw [show p + 1 + b.length = t + 1 + 1 by have := HR.out; omega]; exact MD.out), X4.out⟩, by simp [intOf]; omega⟩
      · have p1 : (a.length : Int) ≤ p := by omega
        obtain rfl : p = a.length := by omega
        have HR := Lib.hid hr
        by_cases hql : q < b.length
        · have q1 : (q : Int) < b.length := by omega
          have q2 : ((q : Int) == b.length) = false := by simp; omega
          have q3 : decide ((q : Int) = b.length) = false := decide_eq_false (by omega)
          have q4 : decide (q = b.length) = false := decide_eq_false (by omega)
          obtain ⟨_, _, e1, _, hb⟩ := RB.out.ext HX.out
          injection e1 with e2 e4 e3
          subst e2 e3
          clear e4
          obtain ⟨ad2, rfl, cb⟩ := hb (by rw [strs_length]; omega)
          have cy := cb q _ (by rw [strs_get b q hql])
          have DB : b.drop q = b[q] :: b.drop (q + 1) := List.drop_eq_getElem_cons hql
          clear cb hb
          generalize b[q] = y at *
          have KX : ∀ w', Ext wr w' → w'.cell? (ad2.add q) = some (.string y) := fun w' h => h.cell cy
          have MX := HM.out
          rw [DB, mrg_r y _ _ (fun z hz => by rw [List.drop_length] at hz; cases hz)] at MX
          have MZ : Hid (M[r]? = some y) := by show _ = _; rw [← dropAtZero, ← MX]; rfl
          have MD : Hid (mrg (a.drop a.length) (b.drop (q + 1)) = M.drop (r + 1)) := by show _ = _; rw [← List.tail_drop (i := r), ← MX]; rfl
          clear MX DB hr
          go_wp2_with fail
          go_quiet (fail)
          have HO := Lib.hid (HO.out.ext ((Ext.refl wr).drewN nq))
          have HX := Lib.hid (HX.out.drewN nq)
          have cc := KX _ ((Ext.refl wr).drewN nq)
          have cy := cc
          clear KX cc
          generalize wr.drewN nq = wd at *
          have MG : M[r]? = some y := MZ.out
          have rM : r < M.length := (List.getElem?_eq_some_iff.1 MG).1
          have MT : Hid (strs (M.take r) ++ strs [y] = strs (M.take (r + 1))) := by
            show _ = _
            rw [strs_append, List.take_add_one, MG]; rfl
          have LT : (M.take r).length = r := by rw [List.length_take]; omega
          have HO1 := HO.out
          clear HO
          obtain ⟨A5, c5, e5, _, rd5⟩ := HO1.reads
          rw [strs_length, LT] at e5 rd5
          subst e5
          have HO := Lib.hid HO1
          clear HO1
          have R3 := Lib.hid (fun W : World => lit_readsS W y)
          have LL : Hid (((strs (M.take r)).length + (strs [y]).length) * 16 ≤ 140737488355328) := by
            show _ ≤ _
            rw [strs_length, LT, strs_length]; simp only [List.length_singleton]; omega
          have O3 := HO.out.ext ((Ext.refl wd).alloc (.cells #[.string y] 9))
          have X3 := HX.out.alloc (.cells #[.string y] 9)
          have R3 := lit_readsS wd y
          have B3 := Lib.hid X3.size
          rcases Nat.eq_zero_or_pos r with hr0 | hr0
          · have r0 : (r : Int) = 0 := by omega
            have r00 : ((r : Int) == 0) = true := by rw [r0]; rfl
            go_wp2_with (at_builtin; refine wpList_app rfl (.tmp 81) (.tmp 83) 78 rfl w2.heap.size 9 (.string ⟨#[]⟩) 16 Tryz.underlying78 infoStr rfl (by omega) _ _ _ (strs [y]) rfl rfl O3 R3 (strs_one _) LL.out B3.out ?_; intro v4 w4 o4 g4 q4)
            have X4 := Lib.hid (X3.grown g4 O3.lo)
            rw [MT.out] at o4
            have O4 := Lib.hid o4
            clear o4 g4 q4 O3 X3 R3
            go_wp2_with fail
            exact ⟨⟨a.length, q + 1, by omega, by omega, rfl, by go_num, (by rw [show a.length + (q + 1) = r + 1 by have := HR.out; omega]; exact O4.out), (by rw [show a.length + (q + 1) = r + 1 by have := HR.out; omega]; exact MD.out), X4.out⟩, by simp [intOf]; omega⟩
          · obtain ⟨ad5, rfl, ca5⟩ := rd5 (by omega)
            obtain ⟨t, rfl⟩ : ∃ t, r = t + 1 := ⟨r - 1, by omega⟩
            have hm : M[t]? = some M[t] := List.getElem?_eq_getElem (by omega)
            have ct := ca5 t (.string M[t]) (by simp [strs, List.getElem?_take, hm])
            have hne : ¬ M[t] = y := fun h => (List.pairwise_iff_getElem.1 MN.out t (t + 1) (by omega) rM (by omega)) (h.trans (List.getElem?_eq_some_iff.1 MG).2.symm)
            have r0 : (((t + 1 : Nat) : Int) == 0) = false := by simp; omega
            have r1 : (0 : Int) ≤ t ∧ (t : Int) < ((t + 1 : Nat) : Int) := by omega
            have hnl : (M[t].toList == y.toList) = false := by
              cases h : (M[t].toList == y.toList) with
              | false => rfl
              | true => exact absurd (ba_ext (eq_of_beq h)) hne
            generalize M[t] = u at *
            go_wp2_with (at_builtin; refine wpList_app rfl (.tmp 81) (.tmp 83) 78 rfl w2.heap.size 9 (.string ⟨#[]⟩) 16 Tryz.underlying78 infoStr rfl (by omega) _ _ _ (strs [y]) rfl rfl O3 R3 (strs_one _) LL.out B3.out ?_; intro v4 w4 o4 g4 q4)
            have X4 := Lib.hid (X3.grown g4 O3.lo)
            rw [MT.out] at o4
            have O4 := Lib.hid o4
            clear o4 g4 q4 O3 X3 R3
            go_wp2_with fail
            exact ⟨⟨a.length, q + 1, by omega, by omega, rfl, by go_num, (by rw [show a.length + (q + 1) = t + 1 + 1 by have := HR.out; omega]; exact O4.out), (by rw [show a.length + (q + 1) = t + 1 + 1 by have := HR.out; omega]; exact MD.out), X4.out⟩, by simp [intOf]; omega⟩
        · have q1 : (b.length : Int) ≤ q := by omega
          obtain rfl : q = b.length := by omega
          have ME : Hid (M.take r = M) := List.take_of_length_le (by have := ML.out; omega)
          have XX := Lib.hid (X2.out.trans HX.out)
          go_wp2_with fail
          go_ret
          exact ⟨_, rfl, (by rw [← ME.out]; exact HO.out.reads), .inr (fun j hj => ⟨Nat.le_trans X2.out.size (HO.out.block j hj).1, (HO.out.block j hj).2⟩), XX.out⟩
end Go.Proofs.YtdcipaaclpedhaaGreat.N
