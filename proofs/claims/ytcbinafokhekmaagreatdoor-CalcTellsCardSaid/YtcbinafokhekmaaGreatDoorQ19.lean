/- CaCp; CaSa; CaSb; CaAc (merged by group.py) -/
import Derived.Test.YtcbinafokhekmaaGreatDoorQ18
import Derived.Test.YtcbinafokhekmaaGreatDoorQ06
namespace Go.Proofs.YtcbinafokhekmaaGreatDoor
section
open Go.RowKit Go.Maps
set_option linter.unusedVariables false
set_option linter.unusedSimpArgs false
set_option linter.unusedSectionVars false
set_option maxRecDepth 100000
attribute [local go_sem] Oper.semAt_some

/-- a table around buckets -/
theorem BkO.table {w : World} {F : Nat → Prop} {P : Option Addr} {c : Nat} {l : List BkR} (H : BkO w F P c l) (h r : Nat) :
    CtO (w.alloc (.cells #[.int .i64 h, .int .i64 r, .slice P l.length c] 87)) (fun k => F k ∨ k = w.heap.size) w.heap.size h r P c l := by
  have hx := (Ext.refl w).alloc (.cells #[.int .i64 h, .int .i64 r, .slice P l.length c] 87)
  refine ⟨BoxN.new w _ _, H.own.ext hx, fun i x hi => (H.ents i x hi).ext hx, fun x hx' y hy => ?_, .inr rfl, fun a ha => ⟨.inl (H.FP a ha), fun e => by have := H.Flt _ (H.FP a ha); omega⟩, fun i x a hi ha => ⟨.inl (H.Fe i x a hi ha).1, fun e => by have := H.Flt _ (H.Fe i x a hi ha).1; omega, (H.Fe i x a hi ha).2⟩, H.Fd, fun k hk => ?_⟩
  · have h1 := H.rows x hx' y hy
    exact ⟨h1.1.ext hx, h1.2.1, (h1.2.2.or (h1.1.lt vl_pos)).mono (fun k hk => hk.imp id (fun e => Nat.le_of_eq e.symm))⟩
  · rw [World.size_alloc]
    rcases hk with hk | rfl
    · have := H.Flt k hk; omega
    · omega
/-- how Copy answers -/
def CopyP (h r : Nat) (raw : List BkR) (w : World) (e : Ending) (w' : World) : Prop := ∃ tn P' c' F' l', e = .returned (.pointer (some ⟨tn, 0, none⟩)) ∧ CtO w' F' tn h r P' c' l' ∧ (∀ k, F' k → w.heap.size ≤ k) ∧ absT l' = absT raw ∧ Ext w w' ∧ NewRows w.heap.size l'
theorem copy_any (t h r : Nat) (P : Option Addr) (c : Nat) (l : List BkR) (w : World) (H : CtR w t h r P c l) (hl : l.length ≤ 5000) (he : ∀ x ∈ l, x.1.2.2.length ≤ 100000) (hr : ∀ x ∈ l, ∀ y ∈ x.1.2.2, y.1.2.2.length ≤ 100000) :
    Calls Tryz.prog 40 #[.pointer (some ⟨t, 0, none⟩)] w (CopyP h r l w) := by
  have hB := fun W (hx : Ext w W) => buckets_any t h r P c l W (H.ext hx) hl he hr
  have a0 := H.box.cell (i := 0) rfl
  have a1 := H.box.cell (i := 1) rfl
  go_enter Tryz.func40, Tryz.ntmps40
  go_wp2_with (fail)
  have s1 : w.drew.cell? ⟨t, 0, none⟩ = some (.int .i64 h) := a0
  have s2 : w.drew.cell? ⟨t, 1, none⟩ = some (.int .i64 r) := a1
  refine wp_region_noPanic ?_
  refine wp_region_held (S := fun w' => w'.cell? ⟨t, 0, none⟩ = some (.int .i64 h) ∧ w'.cell? ⟨t, 1, none⟩ = some (.int .i64 r)) (by kernel_rfl) ?_
  refine wpAnyH_take (i := 0) (v := .pointer (some ⟨t, 0, none⟩)) (fuel := 12) rfl (by kernel_rfl) (by kernel_rfl) (by kernel_rfl) (fun _ _ _ h => h) (.inl ⟨rfl, fun W hS => by obtain ⟨e2, e3⟩ := hS; go_simp⟩) ⟨s1, s2⟩ ?_
  refine wpAnyH_take (i := 1) (v := .pointer (some ⟨t, 0, none⟩)) (fuel := 11) rfl (by kernel_rfl) (by kernel_rfl) (by kernel_rfl) (fun _ _ _ h => h) (.inl ⟨rfl, fun W hS => by obtain ⟨e2, e3⟩ := hS; go_simp⟩) ⟨s1, s2⟩ ?_
  refine wpAnyH_take (i := 2) (v := .pointer (some ⟨t, 0, none⟩)) (fuel := 10) rfl (by kernel_rfl) (by kernel_rfl) (by kernel_rfl) (fun _ _ _ h => h) (.inl ⟨rfl, fun W hS => by obtain ⟨e2, e3⟩ := hS; go_simp⟩) ⟨s1, s2⟩ ?_
  refine wpAnyH_take (i := 3) (v := .int .i64 h) (fuel := 9) rfl (by kernel_rfl) (by kernel_rfl) (by kernel_rfl) (fun _ _ _ h => h) (.inl ⟨rfl, fun W hS => by obtain ⟨e2, e3⟩ := hS; go_simp⟩) ⟨s1, s2⟩ ?_
  refine wpAnyH_take (i := 4) (v := .pointer (some ⟨t, 0, none⟩)) (fuel := 8) rfl (by kernel_rfl) (by kernel_rfl) (by kernel_rfl) (fun _ _ _ h => h) (.inl ⟨rfl, fun W hS => by obtain ⟨e2, e3⟩ := hS; go_simp⟩) ⟨s1, s2⟩ ?_
  refine wpAnyH_take (i := 5) (v := .pointer (some ⟨t, 0, none⟩)) (fuel := 7) rfl (by kernel_rfl) (by kernel_rfl) (by kernel_rfl) (fun _ _ _ h => h) (.inl ⟨rfl, fun W hS => by obtain ⟨e2, e3⟩ := hS; go_simp⟩) ⟨s1, s2⟩ ?_
  refine wpAnyH_take (i := 6) (v := .pointer (some ⟨t, 1, none⟩)) (fuel := 6) rfl (by kernel_rfl) (by kernel_rfl) (by kernel_rfl) (fun _ _ _ h => h) (.inl ⟨rfl, fun W hS => by obtain ⟨e2, e3⟩ := hS; go_simp⟩) ⟨s1, s2⟩ ?_
  refine wpAnyH_take (i := 7) (v := .int .i64 r) (fuel := 5) rfl (by kernel_rfl) (by kernel_rfl) (by kernel_rfl) (fun _ _ _ h => h) (.inl ⟨rfl, fun W hS => by obtain ⟨e2, e3⟩ := hS; go_simp⟩) ⟨s1, s2⟩ ?_
  refine wpAnyH_take (i := 8) (v := .pointer (some ⟨t, 0, none⟩)) (fuel := 4) rfl (by kernel_rfl) (by kernel_rfl) (by kernel_rfl) (fun _ _ _ h => h) (.inl ⟨rfl, fun W hS => by obtain ⟨e2, e3⟩ := hS; go_simp⟩) ⟨s1, s2⟩ ?_
  refine wpAnyH_one (i := 9) (fuel := 3) rfl (by kernel_rfl) rfl fun K' hK => ?_
  go_simp
  refine (hB _ (Ext.refl _).drew).mono ?_
  rintro e w9 ⟨P9, c9, F9, l9, rfl, hO, hF, hab, x9, hnr⟩
  have s1 := x9.cell s1
  have s2 := x9.cell s2
  refine hK _ _ ⟨s1, s2⟩ ?_
  clear hK K' hB
  refine wpAnyH_one (i := 10) (fuel := 2) rfl (by kernel_rfl) rfl fun K' hK => ?_
  go_simp
  refine hK _ _ ⟨s1, s2⟩ ?_
  clear hK K'
  refine wpAnyH_one (i := 11) (fuel := 1) rfl (by kernel_rfl) rfl fun K' hK => ?_
  go_simp
  have xA := (Ext.refl w9).alloc (.cells #[.int .i64 h, .int .i64 r, .slice P9 l9.length c9] 87)
  have HT := hO.table h r
  have s1 := xA.cell s1
  have s2 := xA.cell s2
  refine hK _ _ ⟨s1, s2⟩ ?_
  clear hK K'
  refine wpAnyH_one (i := 12) (fuel := 0) rfl (by kernel_rfl) rfl fun K' hK => ?_
  go_simp
  refine hK _ _ ⟨s1, s2⟩ ?_
  clear hK K'
  refine wpAnyH_done (by kernel_rfl) ?_ 0
  refine NoPanic.normal ?_
  have hsz := x9.size
  have hd : w.drew.heap.size = w.heap.size := rfl
  clear s1 s2 a0 a1
  go_wp2_with (fail)
  go_ret
  refine ⟨w9.heap.size, P9, c9, _, l9, rfl, HT, fun k hk => ?_, hab, ((Ext.refl w).drew.trans x9).trans xA, hnr⟩
  rcases hk with hk | rfl
  · have := hF k hk; omega
  · omega
end
section
open Go.RowKit Go.Maps
set_option linter.unusedVariables false
set_option linter.unusedSimpArgs false
set_option linter.unusedSectionVars false
set_option maxRecDepth 100000
attribute [local go_sem] Oper.semAt_some

theorem rowB_sz {l : List Vl} (h : rowB l = true) : ∀ x ∈ l, x.2.2.size ≤ 140737488355328 := by
  intro x hx
  unfold rowB at h
  rw [Bool.and_eq_true, List.all_eq_true] at h
  have := h.1 x hx
  unfold valB at this
  split at this
  · rw [Bool.and_eq_true] at this
    have := of_decide_eq_true this.2
    omega
  · have := of_decide_eq_true this
    omega
theorem rsamev_any (P Q : Option Addr) (c d : Nat) (l m : List Vl) (w : World) (h : SlV w P c l) (h2 : SlV w Q d m) (o1 : rowB l = true) (o2 : rowB m = true) :
    Calls Tryz.prog 45 #[.slice P l.length c, .slice Q m.length d] w fun e w' => e = .returned (.bool (decide (l = m))) ∧ Ext w w' := by
  have := rsame_any P Q c d l m w h h2 (rowB_sz o1) (rowB_sz o2)
  rwa [show decide (crF l m = 0) = decide (l = m) from by simp only [ord_rows.eq0]] at this
/-- the two lists hold the same below i -/
def sameK (a b : List HdR) (i : Nat) : Prop := ∀ j, j < i → hdA (nthH a j) = hdA (nthH b j)
theorem sameK_all {a b : List HdR} (hl : a.length = b.length) (h : sameK a b a.length) : a.map hdA = b.map hdA := by
  refine List.ext_getElem? fun i => ?_
  rw [List.getElem?_map, List.getElem?_map]
  by_cases hi : i < a.length
  · rw [nthH_some hi, nthH_some (by omega)]
    simp [h i hi]
  · rw [List.getElem?_eq_none (by omega), List.getElem?_eq_none (by omega)]
theorem sameK_not {a b : List HdR} {i : Nat} (hi : i < a.length) (hi2 : i < b.length) (h : ¬ hdA (nthH a i) = hdA (nthH b i)) : ¬ a.map hdA = b.map hdA := fun e => h (by
  have := congrArg (fun l => l[i]?) e
  simp only [List.getElem?_map] at this
  rw [nthH_some hi, nthH_some hi2] at this
  simpa using this)
set_option maxHeartbeats 4000000 in
theorem sameH_any (P Q : Option Addr) (c d : Nat) (a b : List HdR) (w : World) (ha : SlH w P c a) (hb : SlH w Q d b) (va : ∀ x ∈ a, rowB x.1.2.2 = true) (vb : ∀ x ∈ b, rowB x.1.2.2 = true) :
    Calls Tryz.prog 18 #[.slice P a.length c, .slice Q b.length d] w fun e w' => e = .returned (.bool (decide (a.map hdA = b.map hdA))) ∧ Ext w w' := by
  have hla := ha.sl.len
  have hlb := hb.sl.len
  by_cases hl : a.length = b.length
  · have HL := Lib.hid hl
    have cl : ¬ (a.length : Int) ≠ b.length := by omega
    go_enter Tryz.func18, Tryz.ntmps18
    clear hl
    generalize hbl : b.length = nb at *
    have HBL := Lib.hid hbl
    obtain rfl : nb = a.length := by have := HL.out; omega
    clear hbl
    go_wp2_with (fail)
    go_loopw [5] (fun i wr => ∃ j : Nat, j ≤ a.length ∧ i = .int .i64 j ∧ Hid (sameK a b j) ∧ Ext w wr) (fun i _ => a.length - (intOf i).toNat)
    case atStart => exact ⟨0, by omega, rfl, Lib.hid (fun j hj => by omega), Ext.refl _⟩
    case round =>
      obtain ⟨j, hj, rfl, hS, hx⟩ := hrel
      by_cases hlt : j < a.length
      · have hlt2 : j < b.length := by have := HBL.out; omega
        have cj : (j : Int) < a.length := by omega
        have cj0 : (0 : Int) ≤ (j : Int) := by omega
        have d1 : IntKind.i64.wrap ((j : Int) + 1) = (j : Int) + 1 := IntWalk.i64_in _ ⟨by omega, by omega⟩
        obtain ⟨b1, o1, e1, g0, g1⟩ := (ha.ext hx).at_ j hlt
        obtain ⟨b2, o2, e2, k0, k1⟩ := (hb.ext hx).at_ j hlt2
        subst e1 e2
        have r1 := ha.row _ (nthH_mem hlt)
        have r2 := hb.row _ (nthH_mem hlt2)
        have v1 := va _ (nthH_mem hlt)
        have v2 := vb _ (nthH_mem hlt2)
        have HN := fun h => Lib.hid (sameK_not hlt hlt2 h)
        have HNx := fun (h : hdA (nthH a j) = hdA (nthH b j)) => Lib.hid (show sameK a b (j + 1) from fun y hy => by
          by_cases e : y = j
          · subst e; exact h
          · exact hS.out y (by omega))
        generalize nthH a j = x at *
        generalize nthH b j = y at *
        obtain ⟨⟨A, B, L⟩, K⟩ := x
        obtain ⟨⟨A2, B2, L2⟩, K2⟩ := y
        dsimp only at g0 g1 k0 k1 r1 r2 v1 v2
        have hC := fun W (hx' : Ext w W) => rsamev_any A A2 B B2 L L2 W (r1.1.ext hx') (r2.1.ext hx') v1 v2
        have hxd := hx.drew
        clear hlt2
        by_cases hk : K = K2
        · subst hk
          by_cases hr : L = L2
          · have HS := HNx (by simp [hdA, hr])
            simp only [decide_eq_true hr] at hC
            clear HN HNx hr
            go_wp2_with (fail)
            go_region_held3 (fun w' => w'.cell? ⟨b1, o1 + j * 2, none⟩ = some (.slice A L.length B) ∧ w'.cell? ⟨b1, o1 + j * 2 + 1, none⟩ = some (.int .i64 K) ∧ w'.cell? ⟨b2, o2 + j * 2, none⟩ = some (.slice A2 L2.length B2) ∧ w'.cell? ⟨b2, o2 + j * 2 + 1, none⟩ = some (.int .i64 K)) (go_keep)
              (first
                | (go_at_call 45; refine (hC _ hxd).mono ?_; rintro e w3 ⟨rfl, x3⟩; have z0 := x3.cell g0; have z1 := x3.cell g1; have z2 := x3.cell k0; have z3 := x3.cell k1)
                | fail)
            have hx3 := hxd.trans x3
            go_wp2_with (fail)
            go_roundw
            case rel => exact ⟨j + 1, by omega, by go_num, HS, hx3⟩
            case measure => simp [intOf]; omega
          · have HF := HN (fun e => hr (congrArg Prod.fst e))
            simp only [decide_eq_false hr] at hC
            clear HN HNx hr
            go_wp2_with (fail)
            go_region_held3 (fun w' => w'.cell? ⟨b1, o1 + j * 2, none⟩ = some (.slice A L.length B) ∧ w'.cell? ⟨b1, o1 + j * 2 + 1, none⟩ = some (.int .i64 K) ∧ w'.cell? ⟨b2, o2 + j * 2, none⟩ = some (.slice A2 L2.length B2) ∧ w'.cell? ⟨b2, o2 + j * 2 + 1, none⟩ = some (.int .i64 K)) (go_keep)
              (first
                | (go_at_call 45; refine (hC _ hxd).mono ?_; rintro e w3 ⟨rfl, x3⟩; have z0 := x3.cell g0; have z1 := x3.cell g1; have z2 := x3.cell k0; have z3 := x3.cell k1)
                | fail)
            have hx3 := hxd.trans x3
            go_wp2_with (fail)
            go_ret
            exact ⟨by rw [decide_eq_false HF.out]; rfl, hx3⟩
        · have HF := HN (fun e => hk (congrArg Prod.snd e))
          have hne : (K == K2) = false := by simpa using hk
          have hne2 : (K != K2) = true := by simpa using hk
          clear HN HNx
          go_wp2_with (fail)
          go_quiet (fail)
          go_wp2_with (fail)
          go_ret
          exact ⟨by rw [decide_eq_false HF.out]; rfl, hx.trans ((Ext.refl _).drewN _)⟩
      · obtain rfl : j = a.length := by omega
        have HE := Lib.hid (sameK_all HBL.out.symm hS.out)
        go_wp2_with (fail)
        go_ret
        exact ⟨by rw [decide_eq_true HE.out]; rfl, hx⟩
  · have HN := Lib.hid (show ¬ a.map hdA = b.map hdA from fun e => hl (by have := congrArg List.length e; simpa using this))
    have cl : (a.length : Int) ≠ b.length := by omega
    clear hl
    go_enter Tryz.func18, Tryz.ntmps18
    go_wp2_with (fail)
    go_ret
    exact ⟨by rw [decide_eq_false HN.out]; rfl, Ext.refl _⟩
end
section
open Go.RowKit Go.Maps
set_option linter.unusedVariables false
set_option linter.unusedSimpArgs false
set_option linter.unusedSectionVars false
set_option maxRecDepth 100000
attribute [local go_sem] Oper.semAt_some

instance decHd : DecidableEq Hd := inferInstanceAs (DecidableEq (List Vl × Int))
instance decBk : DecidableEq (Bkt Hd) := inferInstanceAs (DecidableEq (List Hd × Int))
/-- the two lists hold the same below i -/
def sameB (a b : List BkR) (i : Nat) : Prop := ∀ j, j < i → bkA (nthBk a j) = bkA (nthBk b j)
theorem sameB_all {a b : List BkR} (hl : a.length = b.length) (h : sameB a b a.length) : absT a = absT b := by
  refine List.ext_getElem? fun i => ?_
  unfold absT
  rw [List.getElem?_map, List.getElem?_map]
  by_cases hi : i < a.length
  · rw [nthBk_some hi, nthBk_some (by omega)]
    simp [h i hi]
  · rw [List.getElem?_eq_none (by omega), List.getElem?_eq_none (by omega)]
theorem sameB_not {a b : List BkR} {i : Nat} (hi : i < a.length) (hi2 : i < b.length) (h : ¬ bkA (nthBk a i) = bkA (nthBk b i)) : ¬ absT a = absT b := fun e => h (by
  have := congrArg (fun l => l[i]?) e
  unfold absT at this
  simp only [List.getElem?_map] at this
  rw [nthBk_some hi, nthBk_some hi2] at this
  simpa using this)
set_option maxHeartbeats 4000000 in
theorem sameBk_any (P Q : Option Addr) (c d : Nat) (a b : List BkR) (w : World) (ha : SlB w P c a) (hb : SlB w Q d b) (va : ∀ x ∈ a, ∀ y ∈ x.1.2.2, rowB y.1.2.2 = true) (vb : ∀ x ∈ b, ∀ y ∈ x.1.2.2, rowB y.1.2.2 = true) :
    Calls Tryz.prog 26 #[.slice P a.length c, .slice Q b.length d] w fun e w' => e = .returned (.bool (decide (absT a = absT b))) ∧ Ext w w' := by
  have hla := ha.sl.len
  have hlb := hb.sl.len
  by_cases hl : a.length = b.length
  · have HL := Lib.hid hl
    have cl : ¬ (a.length : Int) ≠ b.length := by omega
    go_enter Tryz.func26, Tryz.ntmps26
    clear hl
    generalize hbl : b.length = nb at *
    have HBL := Lib.hid hbl
    obtain rfl : nb = a.length := by have := HL.out; omega
    clear hbl
    go_wp2_with (fail)
    go_loopw [5] (fun i wr => ∃ j : Nat, j ≤ a.length ∧ i = .int .i64 j ∧ Hid (sameB a b j) ∧ Ext w wr) (fun i _ => a.length - (intOf i).toNat)
    case atStart => exact ⟨0, by omega, rfl, Lib.hid (fun j hj => by omega), Ext.refl _⟩
    case round =>
      obtain ⟨j, hj, rfl, hS, hx⟩ := hrel
      by_cases hlt : j < a.length
      · have hlt2 : j < b.length := by have := HBL.out; omega
        have cj : (j : Int) < a.length := by omega
        have cj0 : (0 : Int) ≤ (j : Int) := by omega
        have d1 : IntKind.i64.wrap ((j : Int) + 1) = (j : Int) + 1 := IntWalk.i64_in _ ⟨by omega, by omega⟩
        obtain ⟨b1, o1, e1, g0, g1⟩ := (ha.ext hx).at_ j hlt
        obtain ⟨b2, o2, e2, k0, k1⟩ := (hb.ext hx).at_ j hlt2
        subst e1 e2
        have r1 := ha.ent _ (nthBk_mem hlt)
        have r2 := hb.ent _ (nthBk_mem hlt2)
        have v1 := va _ (nthBk_mem hlt)
        have v2 := vb _ (nthBk_mem hlt2)
        have HN := fun h => Lib.hid (sameB_not hlt hlt2 h)
        have HNx := fun (h : bkA (nthBk a j) = bkA (nthBk b j)) => Lib.hid (show sameB a b (j + 1) from fun y hy => by
          by_cases e : y = j
          · subst e; exact h
          · exact hS.out y (by omega))
        generalize nthBk a j = x at *
        generalize nthBk b j = y at *
        obtain ⟨⟨A, B, L⟩, K⟩ := x
        obtain ⟨⟨A2, B2, L2⟩, K2⟩ := y
        dsimp only at g0 g1 k0 k1 r1 r2 v1 v2
        have hC := fun W (hx' : Ext w W) => sameH_any A A2 B B2 L L2 W (r1.ext hx') (r2.ext hx') v1 v2
        have hxd := hx.drew
        clear hlt2
        by_cases hk : K = K2
        · subst hk
          by_cases hr : L.map hdA = L2.map hdA
          · have HS := HNx (by unfold bkA; rw [show List.map hdA L = List.map hdA L2 from hr])
            simp only [decide_eq_true hr] at hC
            clear HN HNx hr
            go_wp2_with (fail)
            go_region_held3 (fun w' => w'.cell? ⟨b1, o1 + j * 2, none⟩ = some (.slice A L.length B) ∧ w'.cell? ⟨b1, o1 + j * 2 + 1, none⟩ = some (.int .i64 K) ∧ w'.cell? ⟨b2, o2 + j * 2, none⟩ = some (.slice A2 L2.length B2) ∧ w'.cell? ⟨b2, o2 + j * 2 + 1, none⟩ = some (.int .i64 K)) (go_keep)
              (first
                | (go_at_call 18; refine (hC _ hxd).mono ?_; rintro e w3 ⟨rfl, x3⟩; have z0 := x3.cell g0; have z1 := x3.cell g1; have z2 := x3.cell k0; have z3 := x3.cell k1)
                | fail)
            have hx3 := hxd.trans x3
            go_wp2_with (fail)
            go_roundw
            case rel => exact ⟨j + 1, by omega, by go_num, HS, hx3⟩
            case measure => simp [intOf]; omega
          · have HF := HN (fun e => hr (congrArg Prod.fst e))
            simp only [decide_eq_false hr] at hC
            clear HN HNx hr
            go_wp2_with (fail)
            go_region_held3 (fun w' => w'.cell? ⟨b1, o1 + j * 2, none⟩ = some (.slice A L.length B) ∧ w'.cell? ⟨b1, o1 + j * 2 + 1, none⟩ = some (.int .i64 K) ∧ w'.cell? ⟨b2, o2 + j * 2, none⟩ = some (.slice A2 L2.length B2) ∧ w'.cell? ⟨b2, o2 + j * 2 + 1, none⟩ = some (.int .i64 K)) (go_keep)
              (first
                | (go_at_call 18; refine (hC _ hxd).mono ?_; rintro e w3 ⟨rfl, x3⟩; have z0 := x3.cell g0; have z1 := x3.cell g1; have z2 := x3.cell k0; have z3 := x3.cell k1)
                | fail)
            have hx3 := hxd.trans x3
            go_wp2_with (fail)
            go_ret
            exact ⟨by rw [decide_eq_false HF.out]; rfl, hx3⟩
        · have HF := HN (fun e => hk (congrArg Prod.snd e))
          have hne : (K == K2) = false := by simpa using hk
          have hne2 : (K != K2) = true := by simpa using hk
          clear HN HNx
          go_wp2_with (fail)
          go_quiet (fail)
          go_wp2_with (fail)
          go_ret
          exact ⟨by rw [decide_eq_false HF.out]; rfl, hx.trans ((Ext.refl _).drewN _)⟩
      · obtain rfl : j = a.length := by omega
        have HE := Lib.hid (sameB_all HBL.out.symm hS.out)
        go_wp2_with (fail)
        go_ret
        exact ⟨by rw [decide_eq_true HE.out]; rfl, hx⟩
  · have HN := Lib.hid (show ¬ absT a = absT b from fun e => hl (by have := congrArg List.length e; rwa [absT_len, absT_len] at this))
    have cl : (a.length : Int) ≠ b.length := by omega
    clear hl
    go_enter Tryz.func26, Tryz.ntmps26
    go_wp2_with (fail)
    go_ret
    exact ⟨by rw [decide_eq_false HN.out]; rfl, Ext.refl _⟩
end
section
open Go.RowKit Go.Maps
set_option linter.unusedVariables false
set_option linter.unusedSimpArgs false
set_option linter.unusedSectionVars false
set_option maxRecDepth 100000
attribute [local go_sem] Oper.semAt_some

/-- an act: its kind, its key, where its row is -/
abbrev AcR := Int × Int × Rw
def csAc (x : AcR) : List Value := [.int .i64 x.1, .int .i64 x.2.1, .slice x.2.2.1 x.2.2.2.2.length x.2.2.2.1]
def nthA (l : List AcR) (i : Nat) : AcR := l.getD i (0, 0, none, 0, [])
theorem nthA_some {l : List AcR} {i : Nat} (h : i < l.length) : l[i]? = some (nthA l i) := by simp [nthA, List.getD_eq_getElem?_getD, h]
theorem nthA_mem {l : List AcR} {i : Nat} (h : i < l.length) : nthA l i ∈ l := List.mem_of_getElem? (nthA_some h)
/-- the acts, read -/
structure SlAc (w : World) (P : Option Addr) (c : Nat) (l : List AcR) : Prop where
  sl : SlG csAc w P c l
  row : ∀ x ∈ l, SlV w x.2.2.1 x.2.2.2.1 x.2.2.2.2 ∧ (x.2.2.1 = none → x.2.2.2.1 = 0)
theorem SlAc.ext {w w' : World} {P : Option Addr} {c : Nat} {l : List AcR} (h : SlAc w P c l) (hx : Ext w w') : SlAc w' P c l := ⟨h.sl.ext hx, fun x hm => ⟨(h.row x hm).1.ext hx, (h.row x hm).2⟩⟩
theorem SlAc.at_ {w : World} {P : Option Addr} {c : Nat} {l : List AcR} (h : SlAc w P c l) (i : Nat) (hi : i < l.length) :
    ∃ b off, P = some ⟨b, off, none⟩ ∧ w.cell? ⟨b, off + i * 3, none⟩ = some (.int .i64 (nthA l i).1) ∧ w.cell? ⟨b, off + i * 3 + 1, none⟩ = some (.int .i64 (nthA l i).2.1) ∧ w.cell? ⟨b, off + i * 3 + 2, none⟩ = some (.slice (nthA l i).2.2.1 (nthA l i).2.2.2.2.length (nthA l i).2.2.2.1) := by
  obtain ⟨b, off, e, h1⟩ := h.sl.at_ i _ (nthA_some hi)
  exact ⟨b, off, e, h1 0 _ rfl, h1 1 _ rfl, h1 2 _ rfl⟩
def ActsP (l : List AcR) (w : World) (e : Ending) (w' : World) : Prop := ∃ r : Bool, e = .returned (.bool r) ∧ (r = true → l.length ≤ 80) ∧ Ext w w'
set_option maxHeartbeats 4000000 in
theorem acts_any (P : Option Addr) (c : Nat) (l : List AcR) (w : World) (h : SlAc w P c l) :
    Calls Tryz.prog 7 #[.slice P l.length c] w (ActsP l w) := by
  have hlen := h.sl.len
  go_enter Tryz.func7, Tryz.ntmps7
  go_wp2_with (fail)
  go_loopw [3] (fun i wr => ∃ j : Nat, j ≤ l.length ∧ j ≤ 80 ∧ i = .int .i64 j ∧ Ext w wr) (fun i _ => l.length - (intOf i).toNat)
  case atStart => exact ⟨0, by omega, by omega, rfl, Ext.refl _⟩
  case round =>
    obtain ⟨j, hj, hj8, rfl, hx⟩ := hrel
    by_cases hlt : j < l.length
    · have cj : (j : Int) < l.length := by omega
      by_cases h80 : j < 80
      · have c8 : (j : Int) < 80 := by omega
        have d1 : IntKind.i64.wrap ((j : Int) + 1) = (j : Int) + 1 := IntWalk.i64_in _ ⟨by omega, by omega⟩
        obtain ⟨b, off, hP, g0, g1, g2⟩ := (h.ext hx).at_ j hlt
        subst hP
        have hr := (h.ext hx).row _ (nthA_mem hlt)
        have HX := Lib.hid hx
        clear g0 g1
        generalize nthA l j = x at *
        obtain ⟨k1, k2, A, B, L⟩ := x
        dsimp only at g2 hr
        have hxa := (Ext.refl wr).alloc (.cells #[.slice A L.length B] 33)
        have hR := lrows_any (some ⟨wr.heap.size, 0, none⟩) 1 [(A, B, L)] _ (SlG.one (w := wr) (cs := Rw.cells) (k := 1) (fun _ => rfl) (A, B, L) (t0 := 33) (C := #[.slice A L.length B]) rfl rfl) (fun x hx' => by
          obtain rfl := List.mem_singleton.1 hx'
          exact hr.1.ext hxa)
        go_wp2_with (go_at_call 10; refine hR.mono ?_; rintro e w1 ⟨⟨z, rfl⟩, rfl⟩; cases z)
        · go_ret
          exact ⟨false, rfl, (fun h => by cases h), HX.out.trans hxa⟩
        · go_roundw
          case rel => exact ⟨j + 1, by omega, by omega, by go_num, HX.out.trans hxa⟩
          case measure => simp [intOf]; omega
      · have c8 : ¬ (j : Int) < 80 := by omega
        have c9 : ¬ (l.length : Int) ≤ 80 := by omega
        go_wp2_with (fail)
        go_ret
        exact ⟨false, rfl, (fun h => by cases h), hx⟩
    · obtain rfl : j = l.length := by omega
      go_wp2_with (fail)
      go_ret
      exact ⟨_, rfl, fun _ => hj8, hx⟩
end
end Go.Proofs.YtcbinafokhekmaaGreatDoor
