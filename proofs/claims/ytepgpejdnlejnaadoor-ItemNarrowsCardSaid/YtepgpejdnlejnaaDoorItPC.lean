/- Items: Clone of a row and of items; Put of both. -/
import Derived.Test.YtepgpejdnlejnaaDoorOwnG
import Derived.Test.YtepgpejdnlejnaaDoorItPB
import Derived.Deep.RegionHeld3
import Derived.Lib.SliceRun
namespace Go.Proofs.YtepgpejdnlejnaaDoor
open Go.RowKit
set_option linter.unusedVariables false
set_option linter.unusedSimpArgs false
set_option linter.unusedSectionVars false
set_option maxRecDepth 20000
attribute [local go_sem] Oper.semAt_some

/-- a copy of a list, of the call's own -/
def ResO {α : Type} (cs : α → List Value) (e : TypeId) (k : Nat) (w : World) (base : Nat) (v : Value) (l : List α) : Prop := ∃ P cap, v = .slice P l.length cap ∧ OwnG cs e k w base v l
theorem OwnG.res {α : Type} {cs : α → List Value} {t e : TypeId} {k bytes : Nat} (E : ElemG cs t e k bytes) {w : World} {base : Nat} {v : Value} {l : List α} (h : OwnG cs e k w base v l) (hl : l.length ≤ 9223372036854775807) : ResO cs e k w base v l := by
  obtain ⟨P, cap, e, _⟩ := h.slG E hl
  exact ⟨P, cap, e, h⟩

set_option maxHeartbeats 4000000 in
theorem clonev_any (P : Option Addr) (cap : Nat) (l : List Vl) (w : World) (h : SlG Vl.cells w P cap l) (h2 : l.length ≤ 100000) (h3 : P = none → cap = 0) :
    Calls Tryd.prog 74 #[.slice P l.length cap] w fun e w' => (∃ v, e = .returned v ∧ OwnG Vl.cells 29 3 w' w.heap.size v l) ∧ Ext w w' := by
  have hlen := h.len
  have qT : ∀ (w : World) (a : Option Addr) (n c n' c' : Nat), (binOp .eql 23 (.slice a n c) (.slice none n' c')).run Tryd.prog w = .ok (.bool a.isNone) w := fun w a n c n' c' => Lib.run_eql_slice_nil w _ _ a n c n' c' Tryd.underlying23
  cases P with
  | none =>
    obtain rfl := h3 rfl
    obtain rfl : l = [] := List.length_eq_zero_iff.1 (by have := h.le; omega)
    go_enter Tryd.func74, Tryd.ntmps74
    go_wp2
    go_ret
    exact ⟨⟨_, rfl, OwnG.nil _ _ _ _ _⟩, Ext.refl _⟩
  | some ad =>
    go_enter Tryd.func74, Tryd.ntmps74
    go_wp2_with (at_builtin; refine wpList_app_G _ elemV rfl _ _ rfl (base := w.heap.size) (l := []) rfl (OwnG.lit0 (Nat.le_refl _)) rfl (h.ext ((Ext.refl _).alloc _)) (fun h => by cases h) (by simp; omega) (by simp; omega) (by simp) ?_)
    intro v' w' ho hb
    go_wp2
    go_ret
    exact ⟨⟨_, rfl, ho⟩, below_ext ((Ext.refl _).alloc _) hb (Nat.le_refl _)⟩

set_option maxHeartbeats 4000000 in
theorem clonet_any (P : Option Addr) (cap : Nat) (l : List It) (w : World) (h : SlG It.cells w P cap l) (h2 : l.length ≤ 100000) (h3 : P = none → cap = 0) :
    Calls Tryd.prog 73 #[.slice P l.length cap] w fun e w' => (∃ v, e = .returned v ∧ OwnG It.cells 32 5 w' w.heap.size v l) ∧ Ext w w' := by
  have hlen := h.len
  have qT : ∀ (w : World) (a : Option Addr) (n c n' c' : Nat), (binOp .eql 22 (.slice a n c) (.slice none n' c')).run Tryd.prog w = .ok (.bool a.isNone) w := fun w a n c n' c' => Lib.run_eql_slice_nil w _ _ a n c n' c' Tryd.underlying22
  cases P with
  | none =>
    obtain rfl := h3 rfl
    obtain rfl : l = [] := List.length_eq_zero_iff.1 (by have := h.le; omega)
    go_enter Tryd.func73, Tryd.ntmps73
    go_wp2
    go_ret
    exact ⟨⟨_, rfl, OwnG.nil _ _ _ _ _⟩, Ext.refl _⟩
  | some ad =>
    go_enter Tryd.func73, Tryd.ntmps73
    go_wp2_with (at_builtin; refine wpList_app_G _ elemT rfl _ _ rfl (base := w.heap.size) (l := []) rfl (OwnG.lit0 (Nat.le_refl _)) rfl (h.ext ((Ext.refl _).alloc _)) (fun h => by cases h) (by simp; omega) (by simp; omega) (by simp) ?_)
    intro v' w' ho hb
    go_wp2
    go_ret
    exact ⟨⟨_, rfl, ho⟩, below_ext ((Ext.refl _).alloc _) hb (Nat.le_refl _)⟩

theorem items_le8 {l : List It} (h : itemsB l = true) : l.length ≤ 8 := by
  unfold itemsB knownB at h
  simp only [Bool.and_eq_true, decide_eq_true_eq] at h
  exact h.2.2
theorem items_pos {l : List It} (h : itemsB l = true) : 0 < l.length := by
  unfold itemsB at h
  simp only [Bool.and_eq_true, decide_eq_true_eq] at h
  exact h.1
def putF (l : List It) (r : List Vl) (n : ByteArray) (v : Vl) : List Vl × Int :=
  if fitsB l r = true then (if 0 ≤ idxF l n then (if valB v = true then (if fitB (nthT l (idxF l n).toNat) v = true then (r.set (idxF l n).toNat v, 0) else ([], 7)) else ([], 1)) else ([], 5)) else ([], 1)
set_option maxHeartbeats 8000000 in
theorem put_any (P Q : Option Addr) (cap cap2 : Nat) (l : List It) (r : List Vl) (s : ByteArray) (v : Vl) (w : World) (h : SlT w P cap l) (h2 : SlV w Q cap2 r) :
    Calls Tryd.prog 40 #[.slice P l.length cap, .slice Q r.length cap2, .string s, v.v] w fun e w' => (∃ u, e = .returned (.tuple #[u, .int .i64 (putF l r s v).2]) ∧ ResV w' u (putF l r s v).1) ∧ Ext w w' := by
  have hlen := h.len
  have hlen2 := h2.len
  have hF := fun W hx => fits_any P Q cap cap2 l r W (h.ext hx) (h2.ext hx)
  obtain ⟨vk, vn, vs⟩ := v
  show Calls _ _ #[_, _, _, .agg #[.int .i64 vk, .int .i64 vn, .string vs]] _ _
  have hbox : ∀ W t, Ext (w.alloc (.cells #[.int .i64 vk, .int .i64 vn, .string vs] t)) W → W.cell? ⟨w.heap.size, 0, none⟩ = some (.int .i64 vk) ∧ W.cell? ⟨w.heap.size, 1, none⟩ = some (.int .i64 vn) ∧ W.cell? ⟨w.heap.size, 2, none⟩ = some (.string vs) := fun W t hx =>
    ⟨hx.cell ((World.cell?_alloc_mark _ _ _ _ 0).trans rfl), hx.cell ((World.cell?_alloc_mark _ _ _ _ 1).trans rfl), hx.cell ((World.cell?_alloc_mark _ _ _ _ 2).trans rfl)⟩
  have hb0 := fun t => (Ext.refl w).alloc (.cells #[.int .i64 vk, .int .i64 vn, .string vs] t)
  cases hf : fitsB l r with
  | false =>
    have HB := Lib.hid (show putF l r s (vk, vn, vs) = ([], 1) from by simp [putF, hf])
    simp only [hf] at hF
    rw [HB.out]
    go_enter Tryd.func40, Tryd.ntmps40
    go_wp2_with (go_at_call 22; refine (hF _ (hb0 _)).mono ?_; rintro e w1 ⟨rfl, hx1⟩)
    go_ret2
    exact ⟨⟨_, rfl, ResV.nil _⟩, (hb0 _).trans hx1⟩
  | true =>
    simp only [hf] at hF
    obtain ⟨hlr, hit⟩ := fits_len hf
    have hr : r.length ≤ 100000 := by have := items_le8 hit; omega
    have hq : Q = none → cap2 = 0 := by
      intro e
      obtain ⟨b, off, e2, _⟩ := h2.at_ 0 _ (nthV_some (by have := items_pos hit; omega))
      rw [e] at e2; cases e2
    clear hit
    by_cases hz : 0 ≤ idxF l s
    · obtain ⟨q, hq0, hql⟩ := idxF_lt hz
      have hI := fun W hx => place_any P cap l s W (h.ext hx)
      simp only [hq0] at hI
      have hq3 : ¬ (q : Int) < 0 := by omega
      have hqr : (q : Int) < r.length := by omega
      have hql' : (q : Int) < l.length := by omega
      have hV := fun W => value_any (vk, vn, vs) W
      unfold Vl.v at hV
      simp only at hV
      cases hv : valB (vk, vn, vs) with
      | false =>
        have HB := Lib.hid (show putF l r s (vk, vn, vs) = ([], 1) from by simp [putF, hf, hz, hv])
        simp only [hv] at hV
        rw [HB.out]
        clear hz hlr hf hv hq0
        go_enter Tryd.func40, Tryd.ntmps40
        go_wp2_with (first
          | (go_at_call 22; refine (hF _ (hb0 _)).mono ?_; rintro e w1 ⟨rfl, hx1⟩)
          | (go_at_call 71; refine (hI _ ((hb0 _).trans hx1)).mono ?_; rintro e w2 ⟨rfl, hx2⟩; obtain ⟨x0, x1, x2⟩ := hbox _ _ (hx1.trans hx2))
          | (go_at_call 12; refine (hV _).mono ?_; rintro e w3 ⟨rfl, hx3⟩))
        go_ret2
        exact ⟨⟨_, rfl, ResV.nil _⟩, (((hb0 _).trans hx1).trans hx2).trans hx3⟩
      | true =>
        simp only [hv] at hV
        obtain ⟨b, off, hP, g0, g1, g2, g3, g4⟩ := h.itemAt q hql
        subst hP
        have hT := fun W => takes_any (nthT l q) (vk, vn, vs) W
        unfold It.v Vl.v at hT
        simp only at hT
        cases ht : fitB (nthT l q) (vk, vn, vs) with
        | false =>
          have HB := Lib.hid (show putF l r s (vk, vn, vs) = ([], 7) from by simp [putF, hf, hz, hv, hq0, ht])
          simp only [ht] at hT
          rw [HB.out]
          generalize nthT l q = x at *
          clear hz hlr hf hv hq0 ht
          go_enter Tryd.func40, Tryd.ntmps40
          go_wp2_with (first
            | (go_at_call 22; refine (hF _ (hb0 _)).mono ?_; rintro e w1 ⟨rfl, hx1⟩)
            | (go_at_call 71; refine (hI _ ((hb0 _).trans hx1)).mono ?_; rintro e w2 ⟨rfl, hx2⟩; obtain ⟨x0, x1, x2⟩ := hbox _ _ (hx1.trans hx2))
            | (go_at_call 12; refine (hV _).mono ?_; rintro e w3 ⟨rfl, hx3⟩; have hx03 := (((hb0 _).trans hx1).trans hx2).trans hx3; have x0 := hx3.cell x0; have x1 := hx3.cell x1; have x2 := hx3.cell x2; have g0 := hx03.cell g0; have g1 := hx03.cell g1; have g2 := hx03.cell g2; have g3 := hx03.cell g3; have g4 := hx03.cell g4))
          go_region_held3 (fun w' => w'.cell? ⟨b, off + q * 5, none⟩ = some (.string x.1) ∧ w'.cell? ⟨b, off + q * 5 + 1, none⟩ = some (.int .i64 x.2.1) ∧ w'.cell? ⟨b, off + q * 5 + 2, none⟩ = some (.int .i64 x.2.2.1) ∧ w'.cell? ⟨b, off + q * 5 + 3, none⟩ = some (.int .i64 x.2.2.2.1) ∧ w'.cell? ⟨b, off + q * 5 + 4, none⟩ = some (.int .i64 x.2.2.2.2) ∧ w'.cell? ⟨w.heap.size, 0, none⟩ = some (.int .i64 vk) ∧ w'.cell? ⟨w.heap.size, 1, none⟩ = some (.int .i64 vn) ∧ w'.cell? ⟨w.heap.size, 2, none⟩ = some (.string vs)) (go_keep)
            (first
              | (go_at_call 62; refine (hT _).mono ?_; rintro e w4 ⟨rfl, hx4⟩; have y0 := hx4.cell g0; have y1 := hx4.cell g1; have y2 := hx4.cell g2; have y3 := hx4.cell g3; have y4 := hx4.cell g4; have y5 := hx4.cell x0; have y6 := hx4.cell x1; have y7 := hx4.cell x2)
              | fail)
          go_wp2
          go_ret2
          exact ⟨⟨_, rfl, ResV.nil _⟩, hx03.drew.trans hx4⟩
        | true =>
          have HB := Lib.hid (show putF l r s (vk, vn, vs) = (r.set q (vk, vn, vs), 0) from by simp [putF, hf, hz, hv, hq0, ht])
          simp only [ht] at hT
          rw [HB.out]
          have hC := fun W hx => clonev_any Q cap2 r W (h2.ext hx) hr hq
          generalize nthT l q = x at *
          clear hz hlr hf hv hq0 ht
          go_enter Tryd.func40, Tryd.ntmps40
          go_wp2_with (first
            | (go_at_call 22; refine (hF _ (hb0 _)).mono ?_; rintro e w1 ⟨rfl, hx1⟩)
            | (go_at_call 71; refine (hI _ ((hb0 _).trans hx1)).mono ?_; rintro e w2 ⟨rfl, hx2⟩; obtain ⟨x0, x1, x2⟩ := hbox _ _ (hx1.trans hx2))
            | (go_at_call 12; refine (hV _).mono ?_; rintro e w3 ⟨rfl, hx3⟩; have hx03 := (((hb0 _).trans hx1).trans hx2).trans hx3; have x0 := hx3.cell x0; have x1 := hx3.cell x1; have x2 := hx3.cell x2; have g0 := hx03.cell g0; have g1 := hx03.cell g1; have g2 := hx03.cell g2; have g3 := hx03.cell g3; have g4 := hx03.cell g4))
          go_region_held3 (fun w' => w'.cell? ⟨b, off + q * 5, none⟩ = some (.string x.1) ∧ w'.cell? ⟨b, off + q * 5 + 1, none⟩ = some (.int .i64 x.2.1) ∧ w'.cell? ⟨b, off + q * 5 + 2, none⟩ = some (.int .i64 x.2.2.1) ∧ w'.cell? ⟨b, off + q * 5 + 3, none⟩ = some (.int .i64 x.2.2.2.1) ∧ w'.cell? ⟨b, off + q * 5 + 4, none⟩ = some (.int .i64 x.2.2.2.2) ∧ w'.cell? ⟨w.heap.size, 0, none⟩ = some (.int .i64 vk) ∧ w'.cell? ⟨w.heap.size, 1, none⟩ = some (.int .i64 vn) ∧ w'.cell? ⟨w.heap.size, 2, none⟩ = some (.string vs)) (go_keep)
            (first
              | (go_at_call 62; refine (hT _).mono ?_; rintro e w4 ⟨rfl, hx4⟩; have y0 := hx4.cell g0; have y1 := hx4.cell g1; have y2 := hx4.cell g2; have y3 := hx4.cell g3; have y4 := hx4.cell g4; have y5 := hx4.cell x0; have y6 := hx4.cell x1; have y7 := hx4.cell x2)
              | fail)
          have hx04 := hx03.drew.trans hx4
          go_wp2_with (first
            | (go_at_call 74; refine (hC _ hx04).mono ?_; rintro e w5 ⟨⟨u, rfl, hown⟩, hx5⟩; have z0 := hx5.cell y5; have z1 := hx5.cell y6; have z2 := hx5.cell y7; obtain ⟨g, c5, rfl, hg1, hg2, hg3, hg4⟩ := hown.tight (by omega); have m0 := hown.cell elemV.hk rfl q _ (nthV_some (by omega)) 0 _ rfl; have m1 := hown.cell elemV.hk rfl q _ (nthV_some (by omega)) 1 _ rfl; have m2 := hown.cell elemV.hk rfl q _ (nthV_some (by omega)) 2 _ rfl; have n0 := hown.frozen rfl (q * 3); have n1 := hown.frozen rfl (q * 3 + 1); have n2 := hown.frozen rfl (q * 3 + 2); simp only [Nat.add_zero] at m0; generalize nthV r q = y at m0 m1 m2; clear hF hI hV hT hC))
          go_ret2
          refine ⟨⟨.slice (some ⟨g, 0, none⟩) r.length c5, rfl, ?_⟩, (((hx04.trans hx5).setCell (by have := hx04.size; simp; omega) _).setCell (by have := hx04.size; simp; omega) _).setCell (by have := hx04.size; simp; omega) _⟩
          have hs := hown.setV rfl q (by omega) (vk, vn, vs)
          rw [show r.length = (r.set q (vk, vn, vs)).length from by simp] at hs
          exact ⟨_, _, by rw [show (r.set q (vk, vn, vs)).length = r.length from by simp], (OwnG.slG elemV hs (by simp; omega)).elim fun P9 ⟨c9, e9, s9⟩ => by cases e9; exact s9⟩
    · have HB := Lib.hid (show putF l r s (vk, vn, vs) = ([], 5) from by simp [putF, hf, hz])
      have hI := fun W hx => place_any P cap l s W (h.ext hx)
      have hz1 : idxF l s < 0 := by omega
      rw [HB.out]
      generalize idxF l s = z at *
      clear hz hlr hf
      go_enter Tryd.func40, Tryd.ntmps40
      go_wp2_with (first
        | (go_at_call 22; refine (hF _ (hb0 _)).mono ?_; rintro e w1 ⟨rfl, hx1⟩)
        | (go_at_call 71; refine (hI _ ((hb0 _).trans hx1)).mono ?_; rintro e w2 ⟨rfl, hx2⟩))
      go_ret2
      exact ⟨⟨_, rfl, ResV.nil _⟩, ((hb0 _).trans hx1).trans hx2⟩
theorem rindexX_any (P : Option Addr) (cap : Nat) (l : List It) (s : ByteArray) (w : World) (h : SlT w P cap l) :
    Calls Tryd.prog 72 #[.slice P l.length cap, .string s] w fun e w' => e = .returned (.int .i64 (idxF l s)) ∧ Ext w w' :=
  (rindex_any P cap l s w h).mono fun e w' ⟨h1, h2⟩ => ⟨h1, h2 ▸ Ext.refl _⟩
set_option maxHeartbeats 8000000 in
theorem rput_any (P Q : Option Addr) (cap cap2 : Nat) (l : List It) (r : List Vl) (s : ByteArray) (v : Vl) (w : World) (h : SlT w P cap l) (h2 : SlV w Q cap2 r) :
    Calls Tryd.prog 41 #[.slice P l.length cap, .slice Q r.length cap2, .string s, v.v] w fun e w' => (∃ u, e = .returned (.tuple #[u, .int .i64 (putF l r s v).2]) ∧ ResV w' u (putF l r s v).1) ∧ Ext w w' := by
  have hlen := h.len
  have hlen2 := h2.len
  have hF := fun W hx => rfits_any P Q cap cap2 l r W (h.ext hx) (h2.ext hx)
  obtain ⟨vk, vn, vs⟩ := v
  show Calls _ _ #[_, _, _, .agg #[.int .i64 vk, .int .i64 vn, .string vs]] _ _
  have hbox : ∀ W t, Ext (w.alloc (.cells #[.int .i64 vk, .int .i64 vn, .string vs] t)) W → W.cell? ⟨w.heap.size, 0, none⟩ = some (.int .i64 vk) ∧ W.cell? ⟨w.heap.size, 1, none⟩ = some (.int .i64 vn) ∧ W.cell? ⟨w.heap.size, 2, none⟩ = some (.string vs) := fun W t hx =>
    ⟨hx.cell ((World.cell?_alloc_mark _ _ _ _ 0).trans rfl), hx.cell ((World.cell?_alloc_mark _ _ _ _ 1).trans rfl), hx.cell ((World.cell?_alloc_mark _ _ _ _ 2).trans rfl)⟩
  have hb0 := fun t => (Ext.refl w).alloc (.cells #[.int .i64 vk, .int .i64 vn, .string vs] t)
  cases hf : fitsB l r with
  | false =>
    have HB := Lib.hid (show putF l r s (vk, vn, vs) = ([], 1) from by simp [putF, hf])
    simp only [hf] at hF
    rw [HB.out]
    go_enter Tryd.func41, Tryd.ntmps41
    go_wp2_with (go_at_call 23; refine (hF _ (hb0 _)).mono ?_; rintro e w1 ⟨rfl, hx1⟩)
    go_ret2
    exact ⟨⟨_, rfl, ResV.nil _⟩, (hb0 _).trans hx1⟩
  | true =>
    simp only [hf] at hF
    obtain ⟨hlr, hit⟩ := fits_len hf
    have hr : r.length ≤ 100000 := by have := items_le8 hit; omega
    have hq : Q = none → cap2 = 0 := by
      intro e
      obtain ⟨b, off, e2, _⟩ := h2.at_ 0 _ (nthV_some (by have := items_pos hit; omega))
      rw [e] at e2; cases e2
    clear hit
    by_cases hz : 0 ≤ idxF l s
    · obtain ⟨q, hq0, hql⟩ := idxF_lt hz
      have hI := fun W hx => rindexX_any P cap l s W (h.ext hx)
      simp only [hq0] at hI
      have hq3 : ¬ (q : Int) < 0 := by omega
      have hqr : (q : Int) < r.length := by omega
      have hql' : (q : Int) < l.length := by omega
      have hV := fun W => rvalue_any (vk, vn, vs) W
      unfold Vl.v at hV
      simp only at hV
      cases hv : valB (vk, vn, vs) with
      | false =>
        have HB := Lib.hid (show putF l r s (vk, vn, vs) = ([], 1) from by simp [putF, hf, hz, hv])
        simp only [hv] at hV
        rw [HB.out]
        clear hz hlr hf hv hq0
        go_enter Tryd.func41, Tryd.ntmps41
        go_wp2_with (first
          | (go_at_call 23; refine (hF _ (hb0 _)).mono ?_; rintro e w1 ⟨rfl, hx1⟩)
          | (go_at_call 72; refine (hI _ ((hb0 _).trans hx1)).mono ?_; rintro e w2 ⟨rfl, hx2⟩; obtain ⟨x0, x1, x2⟩ := hbox _ _ (hx1.trans hx2))
          | (go_at_call 13; refine (hV _).mono ?_; rintro e w3 ⟨rfl, hx3⟩))
        go_ret2
        exact ⟨⟨_, rfl, ResV.nil _⟩, (((hb0 _).trans hx1).trans hx2).trans hx3⟩
      | true =>
        simp only [hv] at hV
        obtain ⟨b, off, hP, g0, g1, g2, g3, g4⟩ := h.itemAt q hql
        subst hP
        have hT := fun W => rholds_any (nthT l q) (vk, vn, vs) W
        unfold It.v Vl.v at hT
        simp only at hT
        cases ht : fitB (nthT l q) (vk, vn, vs) with
        | false =>
          have HB := Lib.hid (show putF l r s (vk, vn, vs) = ([], 7) from by simp [putF, hf, hz, hv, hq0, ht])
          simp only [ht] at hT
          rw [HB.out]
          generalize nthT l q = x at *
          clear hz hlr hf hv hq0 ht
          go_enter Tryd.func41, Tryd.ntmps41
          go_wp2_with (first
            | (go_at_call 23; refine (hF _ (hb0 _)).mono ?_; rintro e w1 ⟨rfl, hx1⟩)
            | (go_at_call 72; refine (hI _ ((hb0 _).trans hx1)).mono ?_; rintro e w2 ⟨rfl, hx2⟩; obtain ⟨x0, x1, x2⟩ := hbox _ _ (hx1.trans hx2))
            | (go_at_call 13; refine (hV _).mono ?_; rintro e w3 ⟨rfl, hx3⟩; have hx03 := (((hb0 _).trans hx1).trans hx2).trans hx3; have x0 := hx3.cell x0; have x1 := hx3.cell x1; have x2 := hx3.cell x2; have g0 := hx03.cell g0; have g1 := hx03.cell g1; have g2 := hx03.cell g2; have g3 := hx03.cell g3; have g4 := hx03.cell g4))
          go_region_held3 (fun w' => w'.cell? ⟨b, off + q * 5, none⟩ = some (.string x.1) ∧ w'.cell? ⟨b, off + q * 5 + 1, none⟩ = some (.int .i64 x.2.1) ∧ w'.cell? ⟨b, off + q * 5 + 2, none⟩ = some (.int .i64 x.2.2.1) ∧ w'.cell? ⟨b, off + q * 5 + 3, none⟩ = some (.int .i64 x.2.2.2.1) ∧ w'.cell? ⟨b, off + q * 5 + 4, none⟩ = some (.int .i64 x.2.2.2.2) ∧ w'.cell? ⟨w.heap.size, 0, none⟩ = some (.int .i64 vk) ∧ w'.cell? ⟨w.heap.size, 1, none⟩ = some (.int .i64 vn) ∧ w'.cell? ⟨w.heap.size, 2, none⟩ = some (.string vs)) (go_keep)
            (first
              | (go_at_call 63; refine (hT _).mono ?_; rintro e w4 ⟨rfl, hx4⟩; have y0 := hx4.cell g0; have y1 := hx4.cell g1; have y2 := hx4.cell g2; have y3 := hx4.cell g3; have y4 := hx4.cell g4; have y5 := hx4.cell x0; have y6 := hx4.cell x1; have y7 := hx4.cell x2)
              | fail)
          go_wp2
          go_ret2
          exact ⟨⟨_, rfl, ResV.nil _⟩, hx03.drew.trans hx4⟩
        | true =>
          have HB := Lib.hid (show putF l r s (vk, vn, vs) = (r.set q (vk, vn, vs), 0) from by simp [putF, hf, hz, hv, hq0, ht])
          simp only [ht] at hT
          rw [HB.out]
          have hC := fun W hx => clonev_any Q cap2 r W (h2.ext hx) hr hq
          generalize nthT l q = x at *
          clear hz hlr hf hv hq0 ht
          go_enter Tryd.func41, Tryd.ntmps41
          go_wp2_with (first
            | (go_at_call 23; refine (hF _ (hb0 _)).mono ?_; rintro e w1 ⟨rfl, hx1⟩)
            | (go_at_call 72; refine (hI _ ((hb0 _).trans hx1)).mono ?_; rintro e w2 ⟨rfl, hx2⟩; obtain ⟨x0, x1, x2⟩ := hbox _ _ (hx1.trans hx2))
            | (go_at_call 13; refine (hV _).mono ?_; rintro e w3 ⟨rfl, hx3⟩; have hx03 := (((hb0 _).trans hx1).trans hx2).trans hx3; have x0 := hx3.cell x0; have x1 := hx3.cell x1; have x2 := hx3.cell x2; have g0 := hx03.cell g0; have g1 := hx03.cell g1; have g2 := hx03.cell g2; have g3 := hx03.cell g3; have g4 := hx03.cell g4))
          go_region_held3 (fun w' => w'.cell? ⟨b, off + q * 5, none⟩ = some (.string x.1) ∧ w'.cell? ⟨b, off + q * 5 + 1, none⟩ = some (.int .i64 x.2.1) ∧ w'.cell? ⟨b, off + q * 5 + 2, none⟩ = some (.int .i64 x.2.2.1) ∧ w'.cell? ⟨b, off + q * 5 + 3, none⟩ = some (.int .i64 x.2.2.2.1) ∧ w'.cell? ⟨b, off + q * 5 + 4, none⟩ = some (.int .i64 x.2.2.2.2) ∧ w'.cell? ⟨w.heap.size, 0, none⟩ = some (.int .i64 vk) ∧ w'.cell? ⟨w.heap.size, 1, none⟩ = some (.int .i64 vn) ∧ w'.cell? ⟨w.heap.size, 2, none⟩ = some (.string vs)) (go_keep)
            (first
              | (go_at_call 63; refine (hT _).mono ?_; rintro e w4 ⟨rfl, hx4⟩; have y0 := hx4.cell g0; have y1 := hx4.cell g1; have y2 := hx4.cell g2; have y3 := hx4.cell g3; have y4 := hx4.cell g4; have y5 := hx4.cell x0; have y6 := hx4.cell x1; have y7 := hx4.cell x2)
              | fail)
          have hx04 := hx03.drew.trans hx4
          go_wp2_with (at_builtin; refine wpList_app_G _ elemV rfl _ _ rfl (base := w4.heap.size) (l := []) rfl (OwnG.lit0 (Nat.le_refl _)) rfl (h2.ext (hx04.alloc _)) (by intro e; rw [e] at hq; exact hq rfl) (by simp; omega) (by simp; omega) (by simp) ?_)
          intro u w5 hown hbl
          have hx5 := below_ext ((Ext.refl w4).alloc _) hbl (Nat.le_refl _)
          have z0 := hx5.cell y5
          have z1 := hx5.cell y6
          have z2 := hx5.cell y7
          obtain ⟨g, c5, rfl, hg1, hg2, hg3, hg4⟩ := hown.tight (by omega)
          have m0 := hown.cell elemV.hk rfl q _ (nthV_some (by omega)) 0 _ rfl
          have m1 := hown.cell elemV.hk rfl q _ (nthV_some (by omega)) 1 _ rfl
          have m2 := hown.cell elemV.hk rfl q _ (nthV_some (by omega)) 2 _ rfl
          have n0 := hown.frozen rfl (q * 3)
          have n1 := hown.frozen rfl (q * 3 + 1)
          have n2 := hown.frozen rfl (q * 3 + 2)
          simp only [Nat.add_zero] at m0
          generalize nthV r q = y at m0 m1 m2
          clear hF hI hV hT hC
          go_wp2
          go_ret2
          refine ⟨⟨.slice (some ⟨g, 0, none⟩) r.length c5, rfl, ?_⟩, (((hx04.trans hx5).setCell (by have := hx04.size; simp; omega) _).setCell (by have := hx04.size; simp; omega) _).setCell (by have := hx04.size; simp; omega) _⟩
          have hs := hown.setV rfl q (by omega) (vk, vn, vs)
          rw [show r.length = (r.set q (vk, vn, vs)).length from by simp] at hs
          exact ⟨_, _, by rw [show (r.set q (vk, vn, vs)).length = r.length from by simp], (OwnG.slG elemV hs (by simp; omega)).elim fun P9 ⟨c9, e9, s9⟩ => by cases e9; exact s9⟩
    · have HB := Lib.hid (show putF l r s (vk, vn, vs) = ([], 5) from by simp [putF, hf, hz])
      have hI := fun W hx => rindexX_any P cap l s W (h.ext hx)
      have hz1 : idxF l s < 0 := by omega
      rw [HB.out]
      generalize idxF l s = z at *
      clear hz hlr hf
      go_enter Tryd.func41, Tryd.ntmps41
      go_wp2_with (first
        | (go_at_call 23; refine (hF _ (hb0 _)).mono ?_; rintro e w1 ⟨rfl, hx1⟩)
        | (go_at_call 72; refine (hI _ ((hb0 _).trans hx1)).mono ?_; rintro e w2 ⟨rfl, hx2⟩))
      go_ret2
      exact ⟨⟨_, rfl, ResV.nil _⟩, ((hb0 _).trans hx1).trans hx2⟩
end Go.Proofs.YtepgpejdnlejnaaDoor
