/- Rings: Changed of the reference. -/
import Derived.Test.YthmcdlieglollaaChM2
namespace Go.Proofs.Ythmcdlieglollaa
open Go.RowKit Go.Sort Go.Maps
set_option linter.unusedVariables false
set_option linter.unusedSimpArgs false
set_option linter.unusedSectionVars false
set_option maxRecDepth 20000
attribute [local go_sem] Oper.semAt_some

/-- the keys whose links differ -/
def chgK (a b : List Lk) : List Int := ks (a.filter (outB b)) ++ ks (b.filter (outK a))
theorem ks_take {a : List Lk} (p : Lk → Bool) {q : Nat} (h : q < a.length) : ks ((a.take (q + 1)).filter p) = if p (nthL a q) = true then ks ((a.take q).filter p) ++ [(nthL a q).1] else ks ((a.take q).filter p) := by
  rw [List.take_succ_eq_append_getElem h, List.filter_append, nthL_get h]
  unfold ks
  by_cases hp : p a[q] = true
  · simp [hp]
  · simp [hp]
theorem ks_le {a : List Lk} (p : Lk → Bool) (q : Nat) : (ks ((a.take q).filter p)).length ≤ a.length := by
  rw [ks_len]
  exact Nat.le_trans (List.length_filter_le _ _) (by rw [List.length_take]; omega)
theorem outB_no {b : List Lk} {x : Lk} (h : idxI (ks b) x.1 < 0) : outB b x = true := by
  unfold outB
  rw [decide_eq_true_iff]
  intro hx
  have := idxI_mem.2 (mem_ks.2 ⟨x, hx, rfl⟩)
  omega
theorem outB_at {b : List Lk} (hd : (ks b).Nodup) {x : Lk} {j : Nat} (hj : j < b.length) (h : idxI (ks b) x.1 = j) : outB b x = !decide (nthL b j = x) := by
  have hk : (nthL b j).1 = x.1 := by
    rw [← ks_at hj]
    have := idxI_val (ks b) x.1 (by omega)
    rw [h] at this
    simpa using this
  unfold outB
  by_cases he : nthL b j = x
  · have : x ∈ b := by rw [← he]; exact nthL_mem hj
    simp [he, this]
  · have : x ∉ b := fun hx => by
      obtain ⟨i, hi, e⟩ := List.getElem_of_mem hx
      rw [← nthL_get hi] at e
      have h1 : nthI (ks b) i = nthI (ks b) j := by rw [ks_at hi, ks_at hj, e, hk]
      have := nodup_inj hd (by rw [ks_len]; exact hi) (by rw [ks_len]; exact hj) h1
      subst this
      exact he e
    simp [he, this]
theorem outK_is {a : List Lk} {x : Lk} : outK a x = decide (idxI (ks a) x.1 < 0) := by
  unfold outK
  rw [Bool.eq_iff_iff, decide_eq_true_iff, decide_eq_true_iff]
  constructor
  · intro h
    have h1 : ¬ 0 ≤ idxI (ks a) x.1 := fun h2 => h (idxI_mem.1 h2)
    omega
  · intro h hx
    have := idxI_mem.2 hx
    omega
set_option maxHeartbeats 8000000 in
theorem rchanged_yes (P Q : Option Addr) (c d : Nat) (l m : List Lk) (o : Int) (ms ms2 : List Int) (hlb : l = builtF o ms) (hr : Right (o :: ms)) (hlb2 : m = builtF o ms2) (hr2 : Right (o :: ms2)) {w : World} (ha : SlL w P c l) (hb : SlL w Q d m) (hn : ms.length ≤ 200) (hn2 : ms2.length ≤ 200) :
    Calls Try.prog 45 #[.slice P l.length c, .slice Q m.length d] w fun e w' => (∃ v, e = .returned (.tuple #[v, .int .i64 0]) ∧ ResI w' v (sortI (chgK l m))) ∧ Ext w w' := by
  have hV := fun W hs => rvalid_any P c l W hs (by rw [hlb]; exact built_okK hr)
  have hV2 := fun W hs => rvalid_any Q d m W hs (by rw [hlb2]; exact built_okK hr2)
  rw [show validB l = true from by rw [hlb]; exact validB_built hr] at hV
  rw [show validB m = true from by rw [hlb2]; exact validB_built hr2] at hV2
  have hlen : l.length = ms.length + 1 := by rw [hlb]; exact built_len o ms
  have hlen2 : m.length = ms2.length + 1 := by rw [hlb2]; exact built_len o ms2
  have HD := Lib.hid (show (ks m).Nodup from by rw [hlb2]; exact nd_built hr2)
  obtain ⟨b, off, hP, g3⟩ := own_cell ha (by omega)
  rw [show own l = o from by rw [hlb]; exact built_own o ms] at g3
  subst hP
  obtain ⟨b2, off2, hP2, g4⟩ := own_cell hb (by omega)
  rw [show own m = o from by rw [hlb2]; exact built_own o ms2] at g4
  subst hP2
  have HN := Lib.hid (show l.length ≤ 201 ∧ m.length ≤ 201 from ⟨by omega, by omega⟩)
  have c0 : (0 : Int) < l.length := by omega
  have c0n : 0 < l.length := by omega
  have c1 : (0 : Int) < m.length := by omega
  have c1n : 0 < m.length := by omega
  have oo : (o != o) = false := by simp
  clear hlen hlen2 hlb hlb2 hr hr2
  go_enter Try.func45, Try.ntmps45
  go_wp2_with (first
    | (go_at_call 22; (with_reducible refine (hV _ ha).mono ?_); rintro e w1 ⟨rfl, hx1⟩; have t1 := hb.ext hx1)
    | (go_at_call 22; (with_reducible refine (hV2 _ t1).mono ?_); rintro e w2 ⟨rfl, hx2⟩; have hxw := hx1.trans hx2; have g3 := hxw.cell g3; have g4 := hxw.cell g4))
  go_quiet (fail)
  go_wp2
  have hxw := hxw.drewN nq
  generalize w2.drewN nq = w3 at *
  have hsz3 := hxw.size
  go_loopw [7, 6, 8] (fun i v _ wr => ∃ q : Nat, q ≤ l.length ∧ i = .int .i64 q ∧ OwnI wr w3.heap.size v (ks ((l.take q).filter (outB m))) ∧ Ext w3 wr) (fun i _ _ _ => l.length - (intOf i).toNat)
  case atStart => exact ⟨0, by omega, rfl, OwnG.nil _ _ _ _ _, Ext.refl _⟩
  case round =>
    obtain ⟨q, hk, rfl, hown, hx⟩ := hrel
    by_cases hlt : q < l.length
    · obtain ⟨b0, of0, hP, k0, k1, k2, k3⟩ := (ha.ext (hxw.trans hx)).lkAt q hlt
      injection hP with hP
      injection hP with hP1 hP2
      subst hP1 hP2
      have cq : (q : Int) < l.length := by omega
      have d1 : IntKind.i64.wrap ((q : Int) + 1) = (q : Int) + 1 := IntWalk.i64_in _ ⟨by have := HN.out; omega, by have := HN.out; omega⟩
      have hAt := at_any (some ⟨b2, off2, none⟩) d m (nthL l q).1 wr (hb.ext (hxw.trans hx))
      have HT := Lib.hid (ks_take (outB m) hlt)
      have HO := Lib.hid hown
      have HTL := Lib.hid (ks_le (a := l) (outB m) q)
      clear hown
      rcases (show idxI (ks m) (nthL l q).1 < 0 ∨ ∃ j : Nat, j < m.length ∧ idxI (ks m) (nthL l q).1 = j from by
        by_cases h : idxI (ks m) (nthL l q).1 < 0
        · exact .inl h
        · have h1 := (idxI_ge (ks m) (nthL l q).1).2
          rw [ks_len] at h1
          exact .inr ⟨(idxI (ks m) (nthL l q).1).toNat, by omega, by omega⟩) with hno | ⟨j, hj, hje⟩
      · have HB := Lib.hid (outB_no hno)
        generalize idxI (ks m) (nthL l q).1 = z at *
        generalize nthL l q = x at *
        obtain ⟨x0, x1, x2, x3⟩ := x
        simp only at k0 k1 k2 k3 hAt
        go_wp2_with (go_at_call 52; refine hAt.mono ?_; rintro e w4 ⟨rfl, rfl⟩)
        go_quiet (fail)
        go_wp2_with (at_builtin; refine wpList_app_G _ elemI rfl _ _ rfl (base := w3.heap.size) rfl (HO.out.ext (((Ext.refl _).drewN _).alloc _)) (m := [x0]) rfl (SlG.one elemI.hk _ ?_ ?_) ?_ ?_ ?_ ?_ ?_)
        all_goals first
          | rfl
          | (intro e; cases e; done)
          | (have := HN.out; have := HTL.out; have := hx.size;  simp at *; omega; done)
          | skip
        intro v' w7 hown' hbl
        have hx7 : Ext w3 w7 := below_ext ((hx.drewN _).alloc _) hbl (Nat.le_refl _)
        go_wp2
        go_roundw
        case rel => exact ⟨q + 1, by omega, by go_num, by rw [HT.out, if_pos HB.out]; exact hown', hx7⟩
        case measure => simp [intOf]; omega
      · have HB := Lib.hid (outB_at HD.out hj hje)
        rw [hje] at hAt
        obtain ⟨b5, of5, hP5, j0, j1, j2, j3⟩ := (hb.ext (hxw.trans hx)).lkAt j hj
        injection hP5 with hP5
        injection hP5 with hP51 hP52
        subst hP51 hP52
        have cj : (j : Int) < m.length := by omega
        have cjn : ¬ (j : Int) < 0 := by omega
        have hkey : (nthL m j).1 = (nthL l q).1 := by
          rw [← ks_at hj]
          have := idxI_val (ks m) (nthL l q).1 (by omega)
          rw [hje] at this
          simpa using this
        generalize nthL l q = x at *
        generalize nthL m j = y at *
        obtain ⟨x0, x1, x2, x3⟩ := x
        obtain ⟨y0, y1, y2, y3⟩ := y
        simp only at k0 k1 k2 k3 j0 j1 j2 j3 hAt hkey
        subst hkey
        clear hje
        by_cases he1 : y1 = x1
        · subst he1
          by_cases he2 : y2 = x2
          · subst he2
            by_cases he3 : y3 = x3
            · subst he3
              have HB2 : Hid (outB m (y0, y1, y2, y3) = false) := Lib.hid (by rw [HB.out]; simp)
              go_wp2_with (go_at_call 52; refine hAt.mono ?_; rintro e w4 ⟨rfl, rfl⟩)
              go_quiet (fail)
              go_wp2
              go_roundw
              case rel => exact ⟨q + 1, by omega, by go_num, by rw [HT.out, if_neg (by rw [HB2.out]; simp)]; exact HO.out, hx.drewN _⟩
              case measure => simp [intOf]; omega
            · have he' : (y3 == x3) = false := by simpa using he3
              have hen : (y3 != x3) = true := by simpa using he3
              have HB2 : Hid (outB m (y0, y1, y2, x3) = true) := Lib.hid (by rw [HB.out]; simp [he3])
              clear he3
              go_wp2_with (go_at_call 52; refine hAt.mono ?_; rintro e w4 ⟨rfl, rfl⟩)
              go_quiet (fail)
              go_wp2_with (at_builtin; refine wpList_app_G _ elemI rfl _ _ rfl (base := w3.heap.size) rfl (HO.out.ext (((Ext.refl _).drewN _).alloc _)) (m := [y0]) rfl (SlG.one elemI.hk _ ?_ ?_) ?_ ?_ ?_ ?_ ?_)
              all_goals first
                | rfl
                | (intro e; cases e; done)
                | (have := HN.out; have := HTL.out; have := hx.size;  simp at *; omega; done)
                | skip
              intro v' w7 hown' hbl
              have hx7 : Ext w3 w7 := below_ext ((hx.drewN _).alloc _) hbl (Nat.le_refl _)
              go_wp2
              go_roundw
              case rel => exact ⟨q + 1, by omega, by go_num, by rw [HT.out, if_pos HB2.out]; exact hown', hx7⟩
              case measure => simp [intOf]; omega
          · have he' : (y2 == x2) = false := by simpa using he2
            have hen : (y2 != x2) = true := by simpa using he2
            have HB2 : Hid (outB m (y0, y1, x2, x3) = true) := Lib.hid (by rw [HB.out]; simp [he2])
            clear he2
            go_wp2_with (go_at_call 52; refine hAt.mono ?_; rintro e w4 ⟨rfl, rfl⟩)
            go_quiet (fail)
            go_wp2_with (at_builtin; refine wpList_app_G _ elemI rfl _ _ rfl (base := w3.heap.size) rfl (HO.out.ext (((Ext.refl _).drewN _).alloc _)) (m := [y0]) rfl (SlG.one elemI.hk _ ?_ ?_) ?_ ?_ ?_ ?_ ?_)
            all_goals first
              | rfl
              | (intro e; cases e; done)
              | (have := HN.out; have := HTL.out; have := hx.size;  simp at *; omega; done)
              | skip
            intro v' w7 hown' hbl
            have hx7 : Ext w3 w7 := below_ext ((hx.drewN _).alloc _) hbl (Nat.le_refl _)
            go_wp2
            go_roundw
            case rel => exact ⟨q + 1, by omega, by go_num, by rw [HT.out, if_pos HB2.out]; exact hown', hx7⟩
            case measure => simp [intOf]; omega
        · have he' : (y1 == x1) = false := by simpa using he1
          have hen : (y1 != x1) = true := by simpa using he1
          have HB2 : Hid (outB m (y0, x1, x2, x3) = true) := Lib.hid (by rw [HB.out]; simp [he1])
          clear he1
          go_wp2_with (go_at_call 52; refine hAt.mono ?_; rintro e w4 ⟨rfl, rfl⟩)
          go_quiet (fail)
          go_wp2_with (at_builtin; refine wpList_app_G _ elemI rfl _ _ rfl (base := w3.heap.size) rfl (HO.out.ext (((Ext.refl _).drewN _).alloc _)) (m := [y0]) rfl (SlG.one elemI.hk _ ?_ ?_) ?_ ?_ ?_ ?_ ?_)
          all_goals first
            | rfl
            | (intro e; cases e; done)
            | (have := HN.out; have := HTL.out; have := hx.size;  simp at *; omega; done)
            | skip
          intro v' w7 hown' hbl
          have hx7 : Ext w3 w7 := below_ext ((hx.drewN _).alloc _) hbl (Nat.le_refl _)
          go_wp2
          go_roundw
          case rel => exact ⟨q + 1, by omega, by go_num, by rw [HT.out, if_pos HB2.out]; exact hown', hx7⟩
          case measure => simp [intOf]; omega
    · obtain rfl : q = l.length := by omega
      rw [List.take_length] at hown
      have hsx := hx.size
      have HOL := Lib.hid (show (ks (l.filter (outB m))).length ≤ 201 from by
        rw [ks_len]
        exact Nat.le_trans (List.length_filter_le _ _) HN.out.1)
      go_wp2
      go_loopw [9, 6] (fun i v w5 => ∃ q : Nat, q ≤ m.length ∧ i = .int .i64 q ∧ OwnI w5 w3.heap.size v (ks (l.filter (outB m)) ++ ks ((m.take q).filter (outK l))) ∧ Ext w3 w5) (fun i _ _ => m.length - (intOf i).toNat)
      case atStart => exact ⟨0, by omega, rfl, by simpa [ks] using hown, hx⟩
      case round =>
        obtain ⟨q, hk, rfl, hown, hx⟩ := hrel
        by_cases hlt : q < m.length
        · obtain ⟨b0, of0, hP, k0, k1, k2, k3⟩ := (hb.ext (hxw.trans hx)).lkAt q hlt
          injection hP with hP
          injection hP with hP1 hP2
          subst hP1 hP2
          have cq : (q : Int) < m.length := by omega
          have d1 : IntKind.i64.wrap ((q : Int) + 1) = (q : Int) + 1 := IntWalk.i64_in _ ⟨by have := HN.out; omega, by have := HN.out; omega⟩
          have hAt := at_any (some ⟨b, off, none⟩) c l (nthL m q).1 _ (ha.ext (hxw.trans hx))
          have HT := Lib.hid (ks_take (outK l) hlt)
          have HO := Lib.hid hown
          have HTL := Lib.hid (ks_le (a := m) (outK l) q)
          have HB := Lib.hid (@outK_is l (nthL m q))
          clear hown
          by_cases hno : idxI (ks l) (nthL m q).1 < 0
          · have HB2 : Hid (outK l (nthL m q) = true) := Lib.hid (by rw [HB.out]; simp [hno])
            generalize idxI (ks l) (nthL m q).1 = z at *
            generalize nthL m q = x at *
            obtain ⟨x0, x1, x2, x3⟩ := x
            simp only at k0 k1 k2 k3 hAt
            clear k1 k2 k3
            go_wp2_with (first
              | (go_at_call 52; refine hAt.mono ?_; rintro e w4 ⟨rfl, rfl⟩)
              | (at_builtin; refine wpList_app_G _ elemI rfl _ _ rfl (base := w3.heap.size) rfl (HO.out.ext ((Ext.refl _).alloc _)) (m := [x0]) rfl (SlG.one elemI.hk _ ?_ ?_) ?_ ?_ ?_ ?_ ?_))
            all_goals first
              | rfl
              | (intro e; cases e; done)
              | (have := HN.out; have := HTL.out; have := HOL.out; have := hx.size; simp at *; omega; done)
              | skip
            intro v' w7 hown' hbl
            have hx7 : Ext w3 w7 := below_ext (hx.alloc _) hbl (Nat.le_refl _)
            go_wp2
            go_roundw
            case rel => exact ⟨q + 1, by omega, by go_num, by rw [HT.out, if_pos HB2.out]; first | exact hown' | (rw [← List.append_assoc]; exact hown'), hx7⟩
            case measure => simp [intOf]; omega
          · have HB2 : Hid (outK l (nthL m q) = false) := Lib.hid (by rw [HB.out]; simp [hno])
            have hno2 : decide (idxI (ks l) (nthL m q).1 < 0) = false := decide_eq_false hno
            generalize idxI (ks l) (nthL m q).1 = z at *
            generalize nthL m q = x at *
            clear k1 k2 k3
            go_wp2_with (go_at_call 52; refine hAt.mono ?_; rintro e w4 ⟨rfl, rfl⟩)
            go_roundw
            case rel => exact ⟨q + 1, by omega, by go_num, by rw [HT.out, if_neg (by rw [HB2.out]; simp)]; exact HO.out, hx⟩
            case measure => simp [intOf]; omega
        · obtain rfl : q = m.length := by omega
          rw [List.take_length] at hown
          obtain ⟨P6, c6, rfl, s6, q6⟩ := hown.res elemI (by
            have := HOL.out
            have h2 := ks_le (a := m) (outK l) m.length
            rw [List.take_length] at h2
            have := HN.out
            rw [List.length_append]
            omega)
          have hA6 := asc_any P6 c6 _ _ s6 (by
            have := HOL.out
            have h2 := ks_le (a := m) (outK l) m.length
            rw [List.take_length] at h2
            have := HN.out
            rw [List.length_append]
            omega)
          have HKK := Lib.hid (show chgK l m = ks (l.filter (outB m)) ++ ks (m.filter (outK l)) from rfl)
          rw [← HKK.out] at hA6 ⊢
          have HKL := Lib.hid (show (chgK l m).length ≤ 402 from by
            rw [HKK.out]
            have := HOL.out
            have h2 := ks_le (a := m) (outK l) m.length
            rw [List.take_length] at h2
            have := HN.out
            rw [List.length_append]
            omega)
          clear hown s6
          go_wp2_with (go_at_call 73; refine hA6.mono ?_; rintro e w8 ⟨⟨v8, rfl, ho8⟩, hx8⟩)
          go_ret2
          exact ⟨⟨_, rfl, ho8.res elemI (by rw [sortI_len]; have := HKL.out; omega)⟩, hxw.trans (hx.trans hx8)⟩
end Go.Proofs.Ythmcdlieglollaa
