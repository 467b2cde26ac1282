/- CaRj; CaFn; CaFr (merged by group.py) -/
import Derived.Test.YtcbinafokhekmaaGreatDoorQ20
namespace Go.Proofs.YtcbinafokhekmaaGreatDoor
section
open Go.RowKit Go.Maps
set_option linter.unusedVariables false
set_option linter.unusedSimpArgs false
set_option linter.unusedSectionVars false
set_option maxRecDepth 100000
attribute [local go_sem] Oper.semAt_some

theorem head_value (Q : Option Addr) (n d hi : Nat) (h2 : hi ≤ d) (k : Nat) (T : TypeId) (hT : Tryz.prog.underlying T = some (.slice (Tryz.prog.elem T))) (hs : (Tryz.prog.info? (Tryz.prog.elem T)).map (·.size) = some k) :
    ∀ W, (Instr.slice T (.slice Q n d) none (some (.int .i64 hi)) none).run Tryz.prog W = .ok (.slice Q hi d) W := by
  intro W
  rw [run_slice_h (w := W) T Q n d hT .i64 hi (by omega) (by omega)]
  cases hq : Tryz.prog.info? (Tryz.prog.elem T) with
  | none => simp [hq] at hs
  | some x => cases Q <;> simp [sizeOf, typeInfo, hq, sliced, Result.andThen, addr_add0]
theorem tail_value (Q : Option Addr) (n d lo : Nat) (h1 : lo ≤ n) (k : Nat) (T : TypeId) (hT : Tryz.prog.underlying T = some (.slice (Tryz.prog.elem T))) (hs : (Tryz.prog.info? (Tryz.prog.elem T)).map (·.size) = some k) :
    ∀ W, (Instr.slice T (.slice Q n d) (some (.int .i64 lo)) none none).run Tryz.prog W = .ok (.slice (if d = lo then Q else Q.map (·.add (lo * k))) (n - lo) (d - lo)) W := by
  intro W
  rw [run_slice_l (w := W) T Q n d hT .i64 lo (by omega) (by omega)]
  cases hq : Tryz.prog.info? (Tryz.prog.elem T) with
  | none => simp [hq] at hs
  | some x =>
    have hx : x.size = k := by simpa [hq] using hs
    simp [sizeOf, typeInfo, hq, hx, sliced, Result.andThen]
set_option maxHeartbeats 8000000 in
theorem rremove_any (FF : Nat → Prop) (h r : Nat) (P : Option Addr) (c : Nat) (l : List BkR) (Pr : Option Addr) (cr : Nat) (row : List Vl) (k : Int) (w : World) (hs : SlB w P c l) (hT : FullT hdV hdH h r (absT l)) (hl : l.length ≤ 1000) (hFF : ∀ i, FF i → i < w.heap.size) (hoF : OffB FF P l) (hrow : SlV w Pr cr row) (hnil : Pr = none → cr = 0) :
    Calls Tryz.prog 37 #[.agg #[.int .i64 h, .int .i64 r, .slice P l.length c], .slice Pr row.length cr, .int .i64 k] w (RefP FF h r (remT h r (absT l) row k) (remE h (absT l) row k) w) := by
  obtain ⟨hh1, hh2, hr1, hr2⟩ := hT.hh
  have hk0 : homeV row % h < h := Nat.mod_lt _ (by omega)
  have hx1 := (Ext.refl w).alloc (.cells #[.int .i64 h, .int .i64 r, .slice P l.length c] 28)
  have hx2 := hx1.alloc (.cells #[.int .i64 0, .int .i64 0, .slice none 0 0] 28)
  have hA := (BoxN.new w 28 #[.int .i64 h, .int .i64 r, .slice P l.length c]).ext ((Ext.refl _).alloc (.cells #[.int .i64 0, .int .i64 0, .slice none 0 0] 28))
  have hB := BoxN.new (w.alloc (.cells #[.int .i64 h, .int .i64 r, .slice P l.length c] 28)) 28 #[.int .i64 0, .int .i64 0, .slice none 0 0]
  rw [show (w.alloc (.cells #[.int .i64 h, .int .i64 r, .slice P l.length c] 28)).heap.size = w.heap.size + 1 from by simp] at hB
  have hV := fun W (hx : Ext w W) => rrow_any Pr cr row W (hrow.ext hx)
  have hK := fun W => rkey_any k W
  have HSAME := fun (W : World) (hx : Ext w W) (hb : BoxN W (w.heap.size + 1) 28 #[.int .i64 0, .int .i64 0, .slice none 0 0]) => Lib.hid (refP_box (FF := FF) (h := h) (r := r) hb (Nat.le_succ _) hx hs)
  by_cases hask : askB row k = true
  · obtain ⟨hrB, hkB⟩ := askB_yes hask
    simp only [hrB] at hV
    simp only [hkB] at hK
    have hHo := fun W (hx : Ext w W) => rhome_any Pr cr row h W (hrow.ext hx) hrB hh1 hh2
    have hEn := fun W (hx : Ext w W) => rentries_any h r P c l ((homeV row % h : Nat) : Int) (pathOf (absT l) (homeV row % h)) W (hs.ext hx) (hT.way hk0) (by have := (hT.path hk0).2.2; omega) (by change (runR l (homeV row % h)).length ≤ _; have := runR_len hT hk0; omega)
    unfold Tb at hEn
    change ∀ W, Ext w W → Calls _ _ _ _ fun e w' => (∃ P' c', e = .returned (.slice P' (runR l (homeV row % h)).length c') ∧ SlH w' P' c' (runR l (homeV row % h))) ∧ Ext W w' at hEn
    have hml := runR_len hT hk0
    have habs := runR_abs hT hk0
    have hrb : ∀ x ∈ runR l (homeV row % h), rowB x.1.2.2 = true := fun x hx => (hT.hom hk0 (hdA x) (by rw [← habs]; exact List.mem_map.2 ⟨x, hx, rfl⟩)).1.1
    have hnd := hT.run_nd hk0
    have HRY := fun (j : Nat) (hj : remI (runE (absT l) (homeV row % h)) row k = j) (h2 : j < (runE (absT l) (homeV row % h)).length) => Lib.hid (remT_yes (r := r) (T := absT l) hask (j := j) hj h2)
    have HNO := Lib.hid (fun (hn : (row, k) ∉ runE (absT l) (homeV row % h)) => (show remE h (absT l) row k = 8 from by
      unfold remE
      rw [if_neg (by rw [hask]; decide), if_neg (rem_no hn)]))
    rw [← habs] at hnd HRY HNO
    have HND := Lib.hid hnd
    have HC5 := Lib.hid hT.c5
    have HWI := fun (W : World) (hx : Ext w W) (Q : Option Addr) (d : Nat) (m : List HdR) (hm : SlH W Q d m) (hm1 : m.length ≤ 1000) (hW : w.heap.size + 1 < W.heap.size) (hmF : ∀ z ∈ m, Off (fun i => FF i ∨ i = w.heap.size + 1) z.1.1 z.1.2.2) => Lib.hid (rwith_any (fun i => FF i ∨ i = w.heap.size + 1) h r (homeV row % h) P c l (pathOf (absT l) (homeV row % h)) Q d m W (hs.ext hx) hm (hT.way hk0) (hT.path hk0).2.1 (hT.path hk0).2.2 hr1 hr2 (by have := hT.ht; rwa [absT_len] at this) hl hT.ents_le hm1 (fun i hi => hi.elim (fun hi => Nat.lt_of_lt_of_le (hFF i hi) hx.size) (fun hi => by omega)) (fun x hx' z hz => (((hoF.ent x hx').row z hz).or (((hs.ent x hx').row z hz).1.lt vl_pos)).mono (fun i hi => hi.imp id (fun e => by omega))) hmF)
    have HMF := Lib.hid (show ∀ y ∈ runR l (homeV row % h), Off (fun i => FF i ∨ w.heap.size ≤ i) y.1.1 y.1.2.2 from fun y hy => by
      have h1 := (runR_rows hT hk0 hs y hy).1.lt vl_pos
      obtain ⟨b, hb, hy⟩ := List.mem_flatMap.1 hy
      have hbl : b < l.length := by
        have := way_lt (hT.way hk0) b hb
        rwa [absT_len] at this
      exact ((hoF.ent _ (nthBk_mem hbl)).row y hy).or h1)
    have HLN := Lib.hid (remT_len hT row k)
    have HIF := Lib.hid (show ∀ (m : List HdR), m.map hdA = runE (absT l) (homeV row % h) → ∀ j, withF h r (absT l) (pathOf (absT l) (homeV row % h)) ((m.eraseIdx j).map hdA) = remF h r (absT l) (homeV row % h) j from fun m e j => by
      unfold remF
      rw [← erase_map, e])
    have HAB := Lib.hid habs
    generalize homeV row % h = kk at *
    generalize runR l kk = m at *
    clear hask hT hnd
    go_enter Tryz.func37, Tryz.ntmps37
    go_wp2_with (fail)
    generalize ((w.alloc (.cells #[.int .i64 h, .int .i64 r, .slice P l.length c] 28)).alloc (.cells #[.int .i64 0, .int .i64 0, .slice none 0 0] 28)) = W at *
    go_wp2_with (first
      | (go_at_call 47; refine (hV _ hx2).mono ?_; rintro e w1 ⟨rfl, x1⟩)
      | (go_at_call 48; refine (hK _).mono ?_; rintro e w2 ⟨rfl, rfl⟩; have a0 := (hA.ext x1).cell (i := 0) rfl; have a1 := (hA.ext x1).cell (i := 1) rfl; have a2 := (hA.ext x1).cell (i := 2) rfl)
      | (go_at_call 43; refine (hHo _ (hx2.trans x1)).mono ?_; rintro e w3 ⟨rfl, x3⟩; have a0 := x3.cell a0; have a1 := x3.cell a1; have a2 := x3.cell a2)
      | (go_at_call 44; refine (hEn _ ((hx2.trans x1).trans x3)).mono ?_; rintro e w4 ⟨⟨P4, c4, rfl, hs4⟩, x4⟩))
    have x04 := (x1.trans x3).trans x4
    have hx04 := hx2.trans x04
    clear a0 a1 a2 hEn hHo hV hK
    go_loopw [11] (fun i wr => ∃ j : Nat, j ≤ m.length ∧ i = .int .i64 j ∧ Hid (∀ y, y < j → ¬ ((nthH m y).1.2.2 = row ∧ (nthH m y).2 = k)) ∧ Ext w4 wr) (fun i _ => m.length - (intOf i).toNat)
    case atStart => exact ⟨0, by omega, rfl, Lib.hid (fun y hy => by omega), Ext.refl _⟩
    case round =>
      obtain ⟨j, hj, rfl, ha, hx⟩ := hrel
      by_cases hlt : j < m.length
      · have cj : (j : Int) < m.length := by omega
        have d1 : IntKind.i64.wrap ((j : Int) + 1) = (j : Int) + 1 := IntWalk.i64_in _ ⟨by omega, by omega⟩
        obtain ⟨b, off, hP, g0, g1⟩ := (hs4.ext hx).at_ j hlt
        subst hP
        have hrw := hs4.row _ (nthH_mem hlt)
        have hrv := hrb _ (nthH_mem hlt)
        have hC := fun W (hx' : Ext w4 W) => rsamev_any (nthH m j).1.1 Pr (nthH m j).1.2.1 cr (nthH m j).1.2.2 row W (hrw.1.ext hx') (hrow.ext (hx04.trans hx')) hrv hrB
        by_cases hr : (nthH m j).1.2.2 = row
        · simp only [decide_eq_true hr] at hC
          by_cases hk : (nthH m j).2 = k
          · have hmj2 : (m.map hdA)[j]? = some (row, k) := by
              rw [List.getElem?_map, nthH_some hlt]
              show some ((nthH m j).1.2.2, (nthH m j).2) = _
              rw [hr, hk]
            have HR1 := Lib.hid (HRY j (rem_at HND.out hmj2) (by rw [List.length_map]; exact hlt)).out
            rw [hk] at g1
            clear hk hr HRY HNO hmj2 ha
            have hAr := hA.ext (x04.trans hx)
            go_wp2_with (go_at_call 45; refine (hC _ hx).mono ?_; rintro e w5 ⟨rfl, x5⟩; have g1 := x5.cell g1)
            have x45 := hx.trans x5
            have hx5 := hx04.trans x45
            have hA5 := hA.ext (x04.trans x45)
            have hB5 := hB.ext (x04.trans x45)
            have s0 : w5.drew.cell? ⟨w.heap.size, 0, none⟩ = some (.int .i64 h) := hA5.cell (i := 0) rfl
            have s1 : w5.drew.cell? ⟨w.heap.size, 1, none⟩ = some (.int .i64 r) := hA5.cell (i := 1) rfl
            have s2 : w5.drew.cell? ⟨w.heap.size, 2, none⟩ = some (.slice P l.length c) := hA5.cell (i := 2) rfl
            have hlt5 : w.heap.size + 1 < w5.heap.size := hB5.lt
            have x55 : Ext w5 w5.drew := (Ext.refl w5).drew
            have hcap := hs4.sl.le
            have hv1 := head_value (some ⟨b, off, none⟩) m.length c4 j (by omega) 2 42 (by kernel_rfl) (by kernel_rfl)
            have hv2 := tail_value (some ⟨b, off, none⟩) m.length c4 (j + 1) (by omega) 2 42 (by kernel_rfl) (by kernel_rfl)
            rw [show ((j + 1 : Nat) : Int) = (j : Int) + 1 from by omega] at hv2
            have hp1 : SlG csHd w4 (some ⟨b, off, none⟩) c4 (m.take j) := by
              have := hs4.sl.part elemHd.hk 0 j (Nat.zero_le _) (by omega) 1 c4 (by omega) hs4.sl.cap (fun e => by cases e)
              simpa [addr_add0] using this
            have hp2 := hs4.sl.part elemHd.hk (j + 1) m.length (by omega) (Nat.le_refl _) c4 (c4 - (j + 1)) (by omega) (by have := hs4.sl.cap; omega) (fun e => by omega)
            rw [List.take_length] at hp2
            have hq2 : (if c4 = j + 1 then (some ⟨b, off, none⟩ : Option Addr) else (some (⟨b, off, none⟩ : Addr)).map (·.add ((j + 1) * 2))) = none → c4 - (j + 1) = 0 := fun e => by split at e <;> cases e
            have hl1 : (m.take j).length = j := by rw [List.length_take]; omega
            have hl2 : (m.drop (j + 1)).length = m.length - (j + 1) := by rw [List.length_drop]
            have hcat : m.take j ++ m.drop (j + 1) = m.eraseIdx j := (List.eraseIdx_eq_take_drop_succ m j).symm
            generalize (if c4 = j + 1 then (some ⟨b, off, none⟩ : Option Addr) else (some (⟨b, off, none⟩ : Addr)).map (·.add ((j + 1) * 2))) = Q2 at *
            generalize hd2 : c4 - (j + 1) = d2 at *
            obtain ⟨n2, hn2⟩ : ∃ n2, m.length - (j + 1) = n2 := ⟨_, rfl⟩
            rw [hn2] at hv2 hl2
            have HL := Lib.hid (And.intro hl1 (And.intro hl2 (show j + n2 + 1 = m.length by omega)))
            have HCAT := Lib.hid hcat
            clear hl1 hl2 hcat hn2 hd2
            refine wp_region_noPanic ?_
            refine wp_region_held (S := fun w' => w'.cell? ⟨w.heap.size, 0, none⟩ = some (.int .i64 h) ∧ w'.cell? ⟨w.heap.size, 1, none⟩ = some (.int .i64 r) ∧ w'.cell? ⟨w.heap.size, 2, none⟩ = some (.slice P l.length c)) (by kernel_rfl) ?_
            refine wpAnyH_take (i := 0) (v := .agg #[.int .i64 h, .int .i64 r, .slice P l.length c]) (fuel := 14) rfl (by kernel_rfl) (by kernel_rfl) (by kernel_rfl) (fun _ _ _ h => h) (.inl ⟨rfl, fun W hS => by obtain ⟨e2, e3, e4⟩ := hS; go_simp⟩) ⟨s0, s1, s2⟩ ?_
            refine wpAnyH_take (i := 1) (v := .int .i64 (kk : Nat)) (fuel := 13) rfl (by kernel_rfl) (by kernel_rfl) (by kernel_rfl) (fun _ _ _ h => h) (.inl ⟨rfl, fun W hS => by obtain ⟨e2, e3, e4⟩ := hS; go_simp⟩) ⟨s0, s1, s2⟩ ?_
            refine wpAnyH_take (i := 3) (v := .slice (some ⟨b, off, none⟩) m.length c4) (fuel := 12) rfl (by kernel_rfl) (by kernel_rfl) (by kernel_rfl) (fun _ _ _ h => h) (.inl ⟨rfl, fun W hS => by obtain ⟨e2, e3, e4⟩ := hS; go_simp⟩) ⟨s0, s1, s2⟩ ?_
            refine wpAnyH_take (i := 4) (v := .int .i64 (j : Nat)) (fuel := 11) rfl (by kernel_rfl) (by kernel_rfl) (by kernel_rfl) (fun _ _ _ h => h) (.inl ⟨rfl, fun W hS => by obtain ⟨e2, e3, e4⟩ := hS; go_simp⟩) ⟨s0, s1, s2⟩ ?_
            refine wpAnyH_take (i := 5) (v := .slice (some ⟨b, off, none⟩) j c4) (fuel := 10) rfl (by kernel_rfl) (by kernel_rfl) (by kernel_rfl) (fun _ _ _ h => h) (.inl ⟨rfl, fun W hS => by obtain ⟨e2, e3, e4⟩ := hS; go_simp⟩) ⟨s0, s1, s2⟩ ?_
            refine wpAnyH_take (i := 7) (v := .slice (some ⟨b, off, none⟩) m.length c4) (fuel := 9) rfl (by kernel_rfl) (by kernel_rfl) (by kernel_rfl) (fun _ _ _ h => h) (.inl ⟨rfl, fun W hS => by obtain ⟨e2, e3, e4⟩ := hS; go_simp⟩) ⟨s0, s1, s2⟩ ?_
            refine wpAnyH_take (i := 8) (v := .int .i64 (j : Nat)) (fuel := 8) rfl (by kernel_rfl) (by kernel_rfl) (by kernel_rfl) (fun _ _ _ h => h) (.inl ⟨rfl, fun W hS => by obtain ⟨e2, e3, e4⟩ := hS; go_simp⟩) ⟨s0, s1, s2⟩ ?_
            refine wpAnyH_take (i := 9) (v := .int .i64 ((j : Int) + 1)) (fuel := 7) rfl (by kernel_rfl) (by kernel_rfl) (by kernel_rfl) (fun _ _ _ h => h) (.inl ⟨rfl, fun W hS => by obtain ⟨e2, e3, e4⟩ := hS; go_simp⟩) ⟨s0, s1, s2⟩ ?_
            refine wpAnyH_take (i := 10) (v := .slice Q2 n2 d2) (fuel := 6) rfl (by kernel_rfl) (by kernel_rfl) (by kernel_rfl) (fun _ _ _ h => h) (.inl ⟨rfl, fun W hS => by obtain ⟨e2, e3, e4⟩ := hS; go_simp⟩) ⟨s0, s1, s2⟩ ?_
            refine wpAnyH_one (i := 2) (fuel := 5) rfl (by kernel_rfl) rfl fun K' hK => ?_
            go_simp
            have x6 := x55.alloc (.cells #[] 56)
            have s0 := ((Ext.refl _).alloc (.cells #[] 56)).cell s0
            have s1 := ((Ext.refl _).alloc (.cells #[] 56)).cell s1
            have s2 := ((Ext.refl _).alloc (.cells #[] 56)).cell s2
            refine hK _ _ ⟨s0, s1, s2⟩ ?_
            clear hK K'
            refine wpAnyH_one (i := 6) (fuel := 4) rfl (by kernel_rfl) rfl fun K' hK => ?_
            refine wpAppU_step (ops := #[]) elemHd (.tmp 55) (.tmp 58) rfl (v := .slice (some ⟨w5.heap.size, 0, none⟩) 0 0) (base := w5.heap.size) rfl (OwnG.lit0 (Nat.le_refl _)) (m := m.take j) (by rw [HL.out.1]; rfl) (hp1.ext (x45.trans x6)) (fun e => by cases e) (by have := HL.out.1; simp; omega) (by have := HL.out.1; simp; omega) x6.size ?_
            intro vE wE hoE hgE hbE hobE
            have xE := below_ext x6 hbE (Nat.le_refl _)
            rw [List.nil_append] at hoE
            have s0 := xE.cell (show w5.cell? ⟨w.heap.size, 0, none⟩ = some (.int .i64 h) from hA5.cell (i := 0) rfl)
            have s1 := xE.cell (show w5.cell? ⟨w.heap.size, 1, none⟩ = some (.int .i64 r) from hA5.cell (i := 1) rfl)
            have s2 := xE.cell (show w5.cell? ⟨w.heap.size, 2, none⟩ = some (.slice P l.length c) from hA5.cell (i := 2) rfl)
            refine hK _ _ ⟨s0, s1, s2⟩ ?_
            clear hK K'
            refine wpAnyH_one (i := 11) (fuel := 3) rfl (by kernel_rfl) rfl fun K' hK => ?_
            refine wpAppU_step (ops := #[]) elemHd (.tmp 59) (.tmp 63) rfl (v := vE) (base := w5.heap.size) rfl hoE (m := m.drop (j + 1)) (by rw [HL.out.2.1]; rfl) (hp2.ext (x45.trans xE)) hq2 (by have h1 := HL.out.1; have h2 := HL.out.2.1; have h3 := HL.out.2.2; omega) (by have h1 := HL.out.1; have h2 := HL.out.2.1; have h3 := HL.out.2.2; omega) xE.size ?_
            intro v8 w8 ho8 hg8 hb8 hob8
            have x8 := below_ext xE hb8 (Nat.le_refl _)
            rw [HCAT.out] at ho8
            have hel : (m.eraseIdx j).length ≤ m.length := List.length_eraseIdx_le ..
            obtain ⟨P8, c8, rfl, hs8⟩ := SlH.of_own ho8 (by omega) (fun y hy => ⟨((hs4.row y (List.mem_of_mem_eraseIdx hy)).1.ext (x45.trans x8)), (hs4.row y (List.mem_of_mem_eraseIdx hy)).2⟩)
            have s0 := x8.cell (show w5.cell? ⟨w.heap.size, 0, none⟩ = some (.int .i64 h) from hA5.cell (i := 0) rfl)
            have s1 := x8.cell (show w5.cell? ⟨w.heap.size, 1, none⟩ = some (.int .i64 r) from hA5.cell (i := 1) rfl)
            have s2 := x8.cell (show w5.cell? ⟨w.heap.size, 2, none⟩ = some (.slice P l.length c) from hA5.cell (i := 2) rfl)
            refine hK _ _ ⟨s0, s1, s2⟩ ?_
            clear hK K'
            have hWI := (HWI w8 (hx5.trans x8) P8 c8 (m.eraseIdx j) hs8 (by omega) (by have := x8.size; omega) (fun z hz => (HMF.out z (List.mem_of_mem_eraseIdx hz)).mono (fun i hi => hi.imp id (fun e => by omega)))).out
            rw [HIF.out m HAB.out j] at hWI
            unfold Tb at hWI
            clear hel
            refine wpAnyH_one (i := 12) (fuel := 2) rfl (by kernel_rfl) rfl fun K' hK => ?_
            go_simp
            refine hWI.mono ?_
            rintro e w9 ⟨v9, l9, rfl, hn9, hab9, ho9, x9⟩
            have hl9 : l9.length ≤ 2000 := by
              have h1 := congrArg List.length hab9
              have h2 := HLN.out
              rw [HR1.out.2, absT_len] at h2
              rw [absT_len] at h1
              omega
            obtain ⟨P9, c9, rfl, _⟩ := hn9.sl (by omega)
            have s0 := x9.cell s0
            have s1 := x9.cell s1
            have s2 := x9.cell s2
            refine hK _ _ ⟨s0, s1, s2⟩ ?_
            clear hK K' hWI
            have hB9 := hB5.ext (x8.trans x9)
            have b0 := hB9.cell (i := 0) rfl
            have b1 := hB9.cell (i := 1) rfl
            have b2 := hB9.cell (i := 2) rfl
            have q0 := hB9.frozen 0
            have q1 := hB9.frozen 1
            have q2 := hB9.frozen 2
            have h85 := x8.size
            obtain ⟨y1, y2, y3, y4, y5, y6, y7⟩ := tabPost_box (FF := FF) (h := h) (r := r) hB9 (Nat.le_succ _) hn9 (by omega) hab9 (fun x hx' => (ho9 x hx').mono (fun i hi => .inl hi)) (fun x hx' => (ho9 x hx').mono (fun i hi => .inr hi)) (hx5.trans (x8.trans x9))
            have huZ := (((UpdF.refl (fun i => i = w.heap.size + 1) w9).setCell (p := ⟨w.heap.size + 1, 0, none⟩) (.inl rfl) (.int .i64 h)).setCell (p := ⟨w.heap.size + 1, 1, none⟩) (.inl rfl) (.int .i64 r)).setCell (p := ⟨w.heap.size + 1, 2, none⟩) (.inl rfl) (.slice P9 l9.length c9)
            have s0 := huZ.cell s0 (by simp)
            have s1 := huZ.cell s1 (by simp)
            have s2 := huZ.cell s2 (by simp)
            clear hl9
            refine wpAnyH_one (i := 13) (fuel := 1) rfl (by kernel_rfl) rfl fun K' hK => ?_
            go_simp
            refine hK _ _ ⟨s0, s1, s2⟩ ?_
            clear hK K'
            refine wpAnyH_one (i := 14) (fuel := 0) rfl (by kernel_rfl) rfl fun K' hK => ?_
            go_simp
            refine hK _ _ ⟨s0, s1, s2⟩ ?_
            clear hK K'
            refine wpAnyH_done (by kernel_rfl) ?_ 0
            refine NoPanic.normal ?_
            obtain ⟨P0, c0, e0, hsZ⟩ := y1.sl (by have h1 := congrArg List.length hab9; have h2 := HLN.out; rw [HR1.out.2, absT_len] at h2; rw [absT_len] at h1; omega)
            injection e0 with e0 _ e1
            subst e0 e1
            have hofZ := NewB.offB y1 hFF y3 (P := P9) (n := l9.length) (c := c9) rfl
            go_wp2_with (fail)
            refine bodyPost_ret (v := .tuple #[.agg #[.int .i64 h, .int .i64 r, .slice P9 l9.length c9], .int .i64 0]) (by simp [results, Tryz.results37, go_sem, y5, y6, y7]) rfl ⟨P9, c9, l9, by rw [HR1.out.1], hab9.trans HR1.out.2.symm, hsZ, hofZ, y4⟩
          · have hk2 : ((nthH m j).2 == k) = false := by simpa using hk
            clear hr
            have HN := Lib.hid (show ∀ y, y < j + 1 → ¬ ((nthH m y).1.2.2 = row ∧ (nthH m y).2 = k) from fun y hy => by
              by_cases e : y = j
              · subst e; exact fun e => hk e.2
              · exact ha.out y (by omega))
            clear ha HRY HNO HWI
            go_wp2_with (go_at_call 45; refine (hC _ hx).mono ?_; rintro e w5 ⟨rfl, x5⟩; have g1 := x5.cell g1)
            go_roundw
            case rel => exact ⟨j + 1, by omega, by go_num, HN, hx.trans x5⟩
            case measure => simp [intOf]; omega
        · simp only [decide_eq_false hr] at hC
          have HN := Lib.hid (show ∀ y, y < j + 1 → ¬ ((nthH m y).1.2.2 = row ∧ (nthH m y).2 = k) from fun y hy => by
            by_cases e : y = j
            · subst e; exact fun e => hr e.1
            · exact ha.out y (by omega))
          clear ha HRY HNO HWI
          go_wp2_with (go_at_call 45; refine (hC _ hx).mono ?_; rintro e w5 ⟨rfl, x5⟩; have g1 := x5.cell g1)
          go_roundw
          case rel => exact ⟨j + 1, by omega, by go_num, HN, hx.trans x5⟩
          case measure => simp [intOf]; omega
      · obtain rfl : j = m.length := by omega
        have HE := Lib.hid (HNO.out (fun hm => by
          obtain ⟨y, hy, e⟩ := List.mem_map.1 hm
          obtain ⟨i, hi, rfl⟩ := nthH_iff.1 hy
          exact ha.out i hi ⟨congrArg Prod.fst e, congrArg Prod.snd e⟩))
        have HTT := Lib.hid (remT_no (r := r) (show remE h (absT l) row k ≠ 0 from by rw [HE.out]; decide))
        clear HRY HNO HWI ha
        have hA1 := hA.ext (x04.trans hx)
        have hB1 := hB.ext (x04.trans hx)
        have a0 := hA1.cell (i := 0) rfl
        have a1 := hA1.cell (i := 1) rfl
        have a2 := hA1.cell (i := 2) rfl
        have b0 := hB1.cell (i := 0) rfl
        have b1 := hB1.cell (i := 1) rfl
        have b2 := hB1.cell (i := 2) rfl
        have q0 := hB1.frozen 0
        have q1 := hB1.frozen 1
        have q2 := hB1.frozen 2
        obtain ⟨z1, z2, z3, z4, z5⟩ := (HSAME _ (hx04.trans hx) hB1).out
        go_wp2_with (fail)
        refine bodyPost_ret (v := .tuple #[.agg #[.int .i64 h, .int .i64 r, .slice P l.length c], .int .i64 8]) (by simp [results, Tryz.results37, go_sem, z3, z4, z5]) rfl ⟨P, c, l, by rw [HE.out], HTT.out.symm, z1, hoF, z2⟩
  · have HE := Lib.hid (show remE h (absT l) row k = 1 from by unfold remE; rw [if_pos (by simpa using hask)])
    have HTT := Lib.hid (remT_no (h := h) (r := r) (T := absT l) (row := row) (k := k) (by rw [HE.out]; decide))
    unfold askB at hask
    cases hrB : rowB row <;> simp only [hrB] at hV hask <;> cases hkB : keyB k <;> simp only [hkB] at hK hask
    all_goals first
      | (exfalso; exact hask rfl)
      | (clear hask
         go_enter Tryz.func37, Tryz.ntmps37
         go_wp2_with (fail)
         generalize ((w.alloc (.cells #[.int .i64 h, .int .i64 r, .slice P l.length c] 28)).alloc (.cells #[.int .i64 0, .int .i64 0, .slice none 0 0] 28)) = W at *
         go_wp2_with (first
           | (go_at_call 47; refine (hV _ hx2).mono ?_; rintro e w1 ⟨rfl, x1⟩; have hA1 := hA.ext x1; have hB1 := hB.ext x1; have a0 := hA1.cell (i := 0) rfl; have a1 := hA1.cell (i := 1) rfl; have a2 := hA1.cell (i := 2) rfl; have b0 := hB1.cell (i := 0) rfl; have b1 := hB1.cell (i := 1) rfl; have b2 := hB1.cell (i := 2) rfl; have q0 := hB1.frozen 0; have q1 := hB1.frozen 1; have q2 := hB1.frozen 2)
           | (go_at_call 48; refine (hK _).mono ?_; rintro e w2 ⟨rfl, rfl⟩))
         obtain ⟨z1, z2, z3, z4, z5⟩ := (HSAME _ (hx2.trans x1) hB1).out
         refine bodyPost_ret (v := .tuple #[.agg #[.int .i64 h, .int .i64 r, .slice P l.length c], .int .i64 1]) (by simp [results, Tryz.results37, go_sem, z3, z4, z5]) rfl ⟨P, c, l, by rw [HE.out], HTT.out.symm, z1, hoF, z2⟩)
end
section
open Go.RowKit Go.Maps
set_option linter.unusedVariables false
set_option linter.unusedSimpArgs false
set_option linter.unusedSectionVars false
set_option maxRecDepth 100000
attribute [local go_sem] Oper.semAt_some

theorem homes_any (t : Nat) (h r : Int) (P : Option Addr) (c : Nat) (l : List BkR) (w : World) (H : CtR w t h r P c l) :
    Calls Tryz.prog 19 #[.pointer (some ⟨t, 0, none⟩)] w fun e w' => e = .returned (.int .i64 h) ∧ w = w' := by
  have a0 := H.box.cell (i := 0) rfl
  go_enter Tryz.func19, Tryz.ntmps19
  go_wp2_with (fail)
  go_ret
  exact ⟨rfl, rfl⟩
/-- the keys of the places -/
def keysN (m : List HdR) (A : List Int) (i : Nat) : List Int := (A.take i).map fun j => (nthH m j.toNat).2
theorem keysN_len (m : List HdR) (A : List Int) (i : Nat) : (keysN m A i).length ≤ A.length := by
  unfold keysN
  rw [List.length_map, List.length_take]
  omega
theorem keysN_succ {m : List HdR} {A : List Int} {i j : Nat} (h : A[i]? = some (j : Int)) : keysN m A (i + 1) = keysN m A i ++ [(nthH m j).2] := by
  unfold keysN
  rw [List.take_add_one, h]
  simp
def findE (row : List Vl) : Int := if askB row 1 = false then 1 else 0
set_option maxHeartbeats 4000000 in
theorem find_any (t h r : Nat) (P : Option Addr) (c : Nat) (raw : List BkR) (Pr : Option Addr) (cr : Nat) (row : List Vl) (w : World) (H : CtR w t h r P c raw) (hT : FullT hdV hdH h r (absT raw)) (ht : Tab w) (hs : SlV w Pr cr row) (hask : askB row 1 = true) :
    Calls Tryz.prog 11 #[.pointer (some ⟨t, 0, none⟩), .slice Pr row.length cr] w fun e w' => (∃ v, e = .returned (.tuple #[v, .int .i64 0]) ∧ OwnI w' w.heap.size v (keysN (runR raw (homeV row % h)) (alikeN (runR raw (homeV row % h)) row (runR raw (homeV row % h)).length) (alikeN (runR raw (homeV row % h)) row (runR raw (homeV row % h)).length).length)) ∧ Ext w w' := by
  have hhh := hT.hh
  have hk0 : homeV row % h < h := Nat.mod_lt _ (by omega)
  have hA := asked_any t Pr cr row 1 w hs
  rw [hask] at hA
  have hml := runR_len hT hk0
  have hrows := runR_rows hT hk0 H.sl
  have hWi := fun W (hx : Ext w W) => with_any t h r P c raw Pr cr row W (H.ext hx) hT (ht.ext hx) (hs.ext hx)
  generalize homeV row % h = kk at *
  generalize runR raw kk = m at *
  have hAl := alikeN_le m row m.length
  have HIN := Lib.hid (alikeN_in (m := m) (row := row))
  generalize alikeN m row m.length = A at *
  have HKL := fun i => Lib.hid (keysN_len m A i)
  clear hT
  go_enter Tryz.func11, Tryz.ntmps11
  go_wp2_with (go_at_call 41; refine hA.mono ?_; rintro e w1 ⟨rfl, hx1⟩)
  go_at_call 42
  refine (hWi _ hx1).mono ?_
  rintro e w2 ⟨⟨P1, c1, v2, rfl, ho1, ho2⟩, hx2⟩
  obtain ⟨P2, c2, rfl, hs2⟩ := ho2.slG elemI (by omega)
  dsimp only
  have hx02 := hx1.trans hx2
  obtain ⟨P1', c1', e1, hsl⟩ := SlH.of_own ho1 (by omega) (fun x hx => ⟨((hrows x hx).1).ext hx02, (hrows x hx).2⟩)
  injection e1 with e1 _ e2
  subst e1 e2
  clear ho1 ho2 hWi
  go_wp2_with (fail)
  go_loopw [26, 9, 11] (fun i u _ wr => ∃ (q : Nat) (v : Value), q ≤ A.length ∧ i = .int .i64 q ∧ v = u ∧ OwnI wr w2.heap.size v (keysN m A q) ∧ Ext w2 wr) (fun i _ _ _ => A.length - (intOf i).toNat)
  case atStart => exact ⟨0, _, by omega, rfl, rfl, OwnG.nil _ _ _ _ _, Ext.refl _⟩
  case round =>
    obtain ⟨q, v, hq, rfl, rfl, ho, hx⟩ := hrel
    by_cases hlt : q < A.length
    · obtain ⟨b1, o1, hP2, g1⟩ := (hs2.ext hx).intAt q hlt
      subst hP2
      have hAq : A[q]? = some (A.getD q 0) := by simp [List.getD_eq_getElem?_getD, hlt]
      obtain ⟨j, hj, hjm⟩ := HIN.out _ (List.mem_of_getElem? hAq)
      rw [hj] at g1 hAq
      obtain ⟨b3, o3, hP1, g3, g4⟩ := (hsl.ext hx).at_ j hjm
      subst hP1
      have cA : (q : Int) < A.length := by omega
      have d1 : IntKind.i64.wrap ((q : Int) + 1) = (q : Int) + 1 := IntWalk.i64_in _ ⟨by omega, by omega⟩
      have cj1 : (j : Int) < m.length := by omega
      have cj0 : (0 : Int) ≤ (j : Int) := by omega
      have HS := Lib.hid (keysN_succ (m := m) hAq)
      have HO := Lib.hid ho
      have hsz := hx.size
      have HXX := Lib.hid hx
      clear hAq hj g3 ho
      generalize (nthH m j).2 = x at *
      go_wp2_with (at_builtin; refine wpList_app_G _ elemI rfl _ _ rfl (base := w2.heap.size) rfl (OwnG.ext HO.out ((Ext.refl _).alloc _)) (m := [x]) rfl (SlG.one elemI.hk _ ?c1 ?c2) ?c3 ?c4 ?c5 ?c6 ?_)
      all_goals first
        | rfl
        | (intro e; cases e; done)
        | (have := (HKL q).out; simp; omega; done)
        | skip
      intro v7 w7 ho7 hb7
      have hx7 := below_ext (HXX.out.alloc (.cells #[.int .i64 x] 3)) hb7 (Nat.le_refl _)
      go_wp2_with (fail)
      go_roundw
      case rel => exact ⟨q + 1, _, by omega, by go_num, rfl, by rw [HS.out]; exact ho7, hx7⟩
      case measure => simp [intOf]; omega
    · obtain rfl : q = A.length := by omega
      go_wp2_with (fail)
      go_ret2
      exact ⟨⟨_, rfl, OwnG.lower ho hx02.size⟩, hx02.trans hx⟩
end
section
open Go.RowKit Go.Maps
set_option linter.unusedVariables false
set_option linter.unusedSimpArgs false
set_option linter.unusedSectionVars false
set_option maxRecDepth 100000
attribute [local go_sem] Oper.semAt_some

/-- how Run answers at a home -/
def RunP (m : List HdR) (w : World) (e : Ending) (w' : World) : Prop := ∃ v l' w1, e = .returned (.tuple #[v, .int .i64 0]) ∧ Ext w w1 ∧ OwnH w1 w' v l' ∧ l'.map hdA = m.map hdA ∧ Ext w w'
theorem runc_any (t h r : Nat) (P : Option Addr) (c : Nat) (raw : List BkR) (k : Nat) (w : World) (H : CtR w t h r P c raw) (hT : FullT hdV hdH h r (absT raw)) (hk : k < h) :
    Calls Tryz.prog 16 #[.pointer (some ⟨t, 0, none⟩), .int .i64 (k : Nat)] w (RunP (runR raw k) w) := by
  have hml := runR_len hT hk
  have hrows := runR_rows hT hk H.sl
  have habs := runR_abs hT hk
  have hrb : ∀ x ∈ runR raw k, x.1.2.2.length ≤ 100000 := fun x hx => by
    have := rowB_len ((hT.hom hk (hdA x) (by rw [← habs]; exact List.mem_map.2 ⟨x, hx, rfl⟩)).1.1)
    have h2 : x.1.2.2.length ≤ 8 := this
    omega
  have hE := entries_any t (k : Nat) h r P c raw (pathOf (absT raw) k) w H (hT.way hk) (by have := (hT.path hk).2.2; omega) (by change (runR raw k).length ≤ _; omega)
  change Calls _ _ _ w fun e w' => (∃ v, e = .returned v ∧ OwnG csHd 56 2 w' w.heap.size v (runR raw k)) ∧ Ext w w' at hE
  have a0 := H.box.cell (i := 0) rfl
  have c1 : (k : Int) < h := by omega
  have c0 : ¬ (k : Int) < 0 := by omega
  have c2 : ¬ (h : Int) ≤ (k : Int) := by omega
  generalize runR raw k = m at *
  clear hT habs
  go_enter Tryz.func16, Tryz.ntmps16
  go_wp2_with (go_at_call 50; refine hE.mono ?_; rintro e w1 ⟨⟨v1, rfl, ho1⟩, hx1⟩)
  obtain ⟨P1, c1', rfl, hsl⟩ := SlH.of_own ho1 (by omega) (fun x hx => ⟨((hrows x hx).1).ext hx1, (hrows x hx).2⟩)
  have hO := owned_any P1 c1' m w1 hsl (by omega) hrb
  go_at_call 49
  refine hO.mono ?_
  rintro e w2 ⟨v2, l2, rfl, hH, hm, hx2⟩
  go_wp2_with (fail)
  go_ret2
  exact ⟨v2, l2, w1, rfl, hx1, hH, hm, hx1.trans hx2⟩
theorem runc_no (t h r : Nat) (P : Option Addr) (c : Nat) (raw : List BkR) (k : Int) (w : World) (H : CtR w t h r P c raw) (hh : h ≤ 100) (hk : k < 0 ∨ (h : Int) ≤ k) :
    Calls Tryz.prog 16 #[.pointer (some ⟨t, 0, none⟩), .int .i64 k] w fun e w' => e = .returned (.tuple #[.slice none 0 0, .int .i64 7]) ∧ w = w' := by
  have a0 := H.box.cell (i := 0) rfl
  by_cases h0 : k < 0
  · go_enter Tryz.func16, Tryz.ntmps16
    go_wp2_with (fail)
    go_ret2
    exact ⟨rfl, rfl⟩
  · have h1 : (h : Int) ≤ k := by omega
    go_enter Tryz.func16, Tryz.ntmps16
    go_wp2_with (fail)
    go_ret2
    exact ⟨rfl, rfl⟩
theorem find_no (t : Nat) (Pr : Option Addr) (cr : Nat) (row : List Vl) (w : World) (hs : SlV w Pr cr row) (hask : askB row 1 = false) :
    Calls Tryz.prog 11 #[.pointer (some ⟨t, 0, none⟩), .slice Pr row.length cr] w fun e w' => e = .returned (.tuple #[.slice none 0 0, .int .i64 1]) ∧ Ext w w' := by
  have hA := asked_any t Pr cr row 1 w hs
  rw [hask] at hA
  clear hask
  go_enter Tryz.func11, Tryz.ntmps11
  go_wp2_with (go_at_call 41; refine hA.mono ?_; rintro e w1 ⟨rfl, hx1⟩)
  go_ret2
  exact ⟨rfl, hx1⟩
end
end Go.Proofs.YtcbinafokhekmaaGreatDoor
