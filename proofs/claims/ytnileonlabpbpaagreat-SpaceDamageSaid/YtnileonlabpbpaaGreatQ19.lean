/- SpAJ; SpAK; SpAC (merged by group.py) -/
import Derived.Test.YtnileonlabpbpaaGreatQ18
namespace Go.Proofs.YtnileonlabpbpaaGreat
section
open Go.RowKit
set_option linter.unusedVariables false
set_option linter.unusedSimpArgs false
set_option linter.unusedSectionVars false
set_option maxRecDepth 20000

set_option maxHeartbeats 1000000 in
theorem refGrow7_no (P : Option Addr) (size cap : Nat) (l : List ByteArray) (pages er : Int) {w : World} (h : RS w P cap size l) (h1 : pages ≤ 9223372036854775807) (he : grL pages l.length = er) (h0 : er ≠ 0) :
    Calls Tryz.prog 42 #[.agg #[.int .i64 size, .slice P l.length cap], .int .i64 pages] w fun e w' => (∃ v, e = .returned (.tuple #[v, .int .i64 er]) ∧ NextR w P w' v size l) ∧ Ext w w' := by
  have hle := h.le
  have hs1 : (w.alloc (.cells #[.int .i64 size, .slice P l.length cap] 28)).heap.size = w.heap.size + 1 := by simp
  have hRA := (TCell.new 28 w (.int .i64 size) (.slice P l.length cap)).ext ((Ext.refl _).alloc (.cells #[.int .i64 0, .slice none 0 0] 28))
  have hRB := TCell.new 28 (w.alloc (.cells #[.int .i64 size, .slice P l.length cap] 28)) (.int .i64 0) (.slice none 0 0)
  rw [hs1] at hRB
  have hx0 := ((Ext.refl w).alloc (.cells #[.int .i64 size, .slice P l.length cap] 28)).alloc (.cells #[.int .i64 0, .slice none 0 0] 28)
  have hRx := (TCell.new 28 (w.alloc (.cells #[.int .i64 size, .slice P l.length cap] 28)) (.int .i64 size) (.slice P l.length cap))
  rw [hs1] at hRx
  have r0 := hRx.cells.1
  have r1 := hRx.cells.2.1
  have hxx := ((Ext.refl w).alloc (.cells #[.int .i64 size, .slice P l.length cap] 28)).alloc (.cells #[.int .i64 size, .slice P l.length cap] 28)
  have a0 := hRA.cells.1
  have a1 := hRA.cells.2.1
  have b0 := hRB.cells.1
  have b1 := hRB.cells.2.1
  have bf0 := hRB.cells.2.2.1
  have bf1 := hRB.cells.2.2.2
  unfold grL at he
  by_cases c1 : pages < 1
  · rw [if_pos (.inl c1)] at he
    subst he
    go_enter Tryz.func42, Tryz.ntmps42
    go_wp2
    exact bodyPost_ret (v := .tuple #[.agg #[.int .i64 size, .slice P l.length cap], .int .i64 7]) (by simp [results, Tryz.results42, go_sem, r0, r1]) rfl ⟨⟨_, rfl, NextR.same h hxx⟩, hxx⟩
  · by_cases c2 : 200 < pages
    · rw [if_pos (.inr c2)] at he
      subst he
      go_enter Tryz.func42, Tryz.ntmps42
      go_wp2
      exact bodyPost_ret (v := .tuple #[.agg #[.int .i64 size, .slice P l.length cap], .int .i64 7]) (by simp [results, Tryz.results42, go_sem, r0, r1]) rfl ⟨⟨_, rfl, NextR.same h hxx⟩, hxx⟩
    · rw [if_neg (by omega)] at he
      by_cases c3 : 200 < (l.length : Int) + pages
      · rw [if_pos c3] at he
        subst he
        have k1 : IntKind.i64.wrap ((l.length : Int) + pages) = l.length + pages := IntWalk.i64_in _ ⟨by omega, by omega⟩
        go_enter Tryz.func42, Tryz.ntmps42
        go_wp2
        exact bodyPost_ret (v := .tuple #[.agg #[.int .i64 size, .slice P l.length cap], .int .i64 4]) (by simp [results, Tryz.results42, go_sem, r0, r1]) rfl ⟨⟨_, rfl, NextR.same h hxx⟩, hxx⟩
      · rw [if_neg c3] at he
        exact absurd he.symm h0
theorem GoodL.grow {size : Nat} {l : List ByteArray} (h : GoodL size l) (k : Nat) (hk : l.length + k ≤ 200) : GoodL size (l ++ List.replicate k (newP size)) := by
  obtain ⟨pv, pz, _, _⟩ := newP_ok size h.sz
  refine ⟨fun i hi => ?_, by have := h.pos; simp; omega, by simpa using hk, h.sz⟩
  rw [List.length_append, List.length_replicate] at hi
  by_cases hl : i < l.length
  · rw [show nthB (l ++ List.replicate k (newP size)) i = nthB l i from by unfold nthB; rw [List.getD_eq_getElem?_getD, List.getD_eq_getElem?_getD, List.getElem?_append_left hl]]
    exact h.good i hl
  · rw [show nthB (l ++ List.replicate k (newP size)) i = newP size from by unfold nthB; rw [List.getD_eq_getElem?_getD, List.getElem?_append_right (by omega), List.getElem?_replicate, if_pos (by omega)]; rfl]
    exact ⟨pv, pz⟩
set_option maxHeartbeats 1000000 in
theorem refGrow7_yes (P : Option Addr) (size cap : Nat) (l : List ByteArray) (pages : Nat) {w : World} (h : RS w P cap size l) (hp1 : 1 ≤ pages) (hp2 : l.length + pages ≤ 200) :
    Calls Tryz.prog 42 #[.agg #[.int .i64 size, .slice P l.length cap], .int .i64 pages] w fun e w' => (∃ v, e = .returned (.tuple #[v, .int .i64 0]) ∧ NextR w P w' v size (l ++ List.replicate pages (newP size))) ∧ Ext w w' := by
  have hle := h.le
  have hpos := h.pos
  have hB := fun {W : World} => refBuilt0 size h.sz W
  have HG := Lib.hid (h.goodL.grow pages hp2)
  generalize newP size = p at *
  have hs1 : (w.alloc (.cells #[.int .i64 size, .slice P l.length cap] 28)).heap.size = w.heap.size + 1 := by simp
  have hs2 : ((w.alloc (.cells #[.int .i64 size, .slice P l.length cap] 28)).alloc (.cells #[.int .i64 0, .slice none 0 0] 28)).heap.size = w.heap.size + 1 + 1 := by simp
  have hRA := (TCell.new 28 w (.int .i64 size) (.slice P l.length cap)).ext ((Ext.refl _).alloc (.cells #[.int .i64 0, .slice none 0 0] 28))
  have hRB := TCell.new 28 (w.alloc (.cells #[.int .i64 size, .slice P l.length cap] 28)) (.int .i64 0) (.slice none 0 0)
  rw [hs1] at hRB
  have hx0 := ((Ext.refl w).alloc (.cells #[.int .i64 size, .slice P l.length cap] 28)).alloc (.cells #[.int .i64 0, .slice none 0 0] 28)
  have hC := refCopy7 P size cap l (h.ext hx0)
  rw [hs2] at hC
  have a0 := hRA.cells.1
  have a1 := hRA.cells.2.1
  have c1 : ¬ (pages : Int) < 1 := by omega
  have c2 : ¬ 200 < (pages : Int) := by omega
  have c3 : ¬ 200 < (l.length : Int) + pages := by omega
  have k1 : IntKind.i64.wrap ((l.length : Int) + pages) = l.length + pages := IntWalk.i64_in _ ⟨by omega, by omega⟩
  go_enter Tryz.func42, Tryz.ntmps42
  go_wp2_with (go_at_call 82; refine hC.mono ?_; rintro e w3 ⟨⟨g, c, rfl, ho⟩, hE⟩; have hA := hRA.ext hE; have hBx := hRB.ext hE; have af0 := hA.cells.2.2.1; have af1 := hA.cells.2.2.2; have A0 := hA.cells.1; have A1 := hA.cells.2.1; have hAs := hA.set0 (.int .i64 size); have x1 := hAs.cells.2.1; have xf1 := hAs.cells.2.2.2)
  have hA2 := hAs.set1 (.slice (some ⟨g, 0, none⟩) l.length c)
  have hB2 := (hBx.far (p := ⟨w.heap.size, 0, none⟩) (by simp) (.int .i64 size)).far (p := ⟨w.heap.size, 1, none⟩) (by simp) (.slice (some ⟨g, 0, none⟩) l.length c)
  have ho2 := (ho.far (R := w.heap.size) (i := 0) (by omega) (.int .i64 size)).far (R := w.heap.size) (i := 1) (by omega) (.slice (some ⟨g, 0, none⟩) l.length c)
  have hx2 := ((hx0.trans hE).setCell (p := ⟨w.heap.size, 0, none⟩) (Nat.le_refl _) (.int .i64 size)).setCell (p := ⟨w.heap.size, 1, none⟩) (Nat.le_refl _) (.slice (some ⟨g, 0, none⟩) l.length c)
  have hz2 : w.heap.size + 1 + 1 ≤ ((w3.setCell ⟨w.heap.size, 0, none⟩ (.int .i64 size)).setCell ⟨w.heap.size, 1, none⟩ (.slice (some ⟨g, 0, none⟩) l.length c)).heap.size := by have := hE.size; rw [hs2] at this; simpa [World.setCell] using this
  generalize (w3.setCell ⟨w.heap.size, 0, none⟩ (.int .i64 size)).setCell ⟨w.heap.size, 1, none⟩ (.slice (some ⟨g, 0, none⟩) l.length c) = W2 at *
  clear a0 a1 hRA hRB hC hA hBx af0 af1 A0 A1 hAs x1 xf1 ho hs1
  go_loopw [6] (fun i wr => ∃ k : Nat, k ≤ pages ∧ i = .int .i64 k ∧ (∃ v, TCell 28 wr w.heap.size (.int .i64 size) v ∧ OwnS wr (w.heap.size + 1 + 1) v (l ++ List.replicate k p)) ∧ TCell 28 wr (w.heap.size + 1) (.int .i64 0) (.slice none 0 0) ∧ Ext w wr ∧ w.heap.size + 1 + 1 ≤ wr.heap.size) (fun i _ => pages - (intOf i).toNat)
  case atStart => exact ⟨0, by omega, rfl, ⟨_, hA2, by simpa using ho2⟩, hB2, hx2, hz2⟩
  case round =>
    obtain ⟨k, hk, rfl, ⟨v, hAr, ho⟩, hTr, hx, hsz⟩ := hrel
    by_cases hlt : k < pages
    · have a0 := hAr.cells.1
      have a1 := hAr.cells.2.1
      obtain ⟨L, hL⟩ : ∃ L, l ++ List.replicate k p = L := ⟨_, rfl⟩
      have hLn : L.length = l.length + k := by rw [← hL]; simp
      have hLr : L ++ [p] = l ++ List.replicate (k + 1) p := by rw [← hL, List.replicate_succ', List.append_assoc]
      rw [hL] at ho
      have HL := Lib.hid hLn
      have HR := Lib.hid hLr
      clear hLn hLr hL
      have c4 : (k : Int) < pages := by omega
      go_wp2
      go_region_law
        (first
          | (refine step_app_B (w.heap.size + 1 + 1) elemS ?_ (.tmp 31) (.tmp 35) ?_ v L [p] 1 (some ⟨?_, 0, none⟩) 1 ?_ ?_ rfl ?_ ?_ (fun e => by cases e) ?_ ?_ ?_ ?_
             · rfl
             · rfl
             rotate_left 1
             · rfl
             · rfl
             · exact ho.ext (by (repeat (first | exact Ext.refl _ | assumption | refine Ext.trans ?_ hx5 | refine Ext.drew ?_ | refine Ext.drewN ?_ _ | refine Ext.alloc ?_ _)))
             · refine SlG.block1 (e := 9) elemS.hk p rfl ?_; refine alloc_at _ _ _ ?_; (simp; done)
             · rw [HL.out]; omega
             · rw [HL.out]; omega
             · have := hx5.size; simp at this ⊢; omega
             intro v6 w6 ho6 hb6; have hA6 := TCell.below (hAr.ext (by (repeat (first | exact Ext.refl _ | assumption | refine Ext.trans ?_ hx5 | refine Ext.drew ?_ | refine Ext.drewN ?_ _ | refine Ext.alloc ?_ _)))) hb6 (Nat.lt_succ_of_lt (Nat.lt_succ_self _)); have af6 := hA6.cells.2.2.2; have a6 := hA6.cells.2.1; obtain ⟨g6, c6, rfl, hg6, hl6, _, _⟩ := ho6.tight (by rw [List.length_append]; exact Nat.succ_pos _))
          | (go_simp; go_at_call 80; (with_reducible refine hB.mono ?_); rintro e w5 ⟨rfl, hx5⟩; have a5 := hx5.cell a1; have a5b := (Ext.alloc hx5 (.cells #[.string p] 9)).cell a1; have a5c := hx5.cell a0; have a5d := (Ext.alloc hx5 (.cells #[.string p] 9)).cell a0; dsimp only)
          | fail)
      all_goals
        go_wp2
        have HX5 := ((Ext.refl wr).drew.trans hx5).alloc (.cells #[.string p] 9)
        have hL1 : (L ++ [p]).length = L.length + 1 := by simp
        rw [hL1] at ho6
        have hA7 := hA6.set1 (.slice (some ⟨g6, 0, none⟩) (L.length + 1) c6)
        have ho7 := ho6.far (R := w.heap.size) (i := 1) (Nat.lt_succ_of_lt (Nat.lt_succ_self _)) (.slice (some ⟨g6, 0, none⟩) (L.length + 1) c6)
        have hT7 := (TCell.below (hTr.ext HX5) hb6 (by omega)).far (p := ⟨w.heap.size, 1, none⟩) (by simp) (.slice (some ⟨g6, 0, none⟩) (L.length + 1) c6)
        have hx7 := (below_ext (hx.trans HX5) hb6 (by omega)).setCell (p := ⟨w.heap.size, 1, none⟩) (show w.heap.size ≤ w.heap.size from Nat.le_refl _) (.slice (some ⟨g6, 0, none⟩) (L.length + 1) c6)
        have hs7 : w.heap.size + 1 + 1 ≤ w6.heap.size := Nat.le_trans (Nat.le_trans hsz HX5.size) hb6.size
        exact ⟨⟨k + 1, by omega, by go_num, ⟨_, ⟨hA7.heap⟩, by rw [← HR.out]; exact ho7⟩, ⟨hT7.heap⟩, hx7, by simpa [World.setCell] using hs7⟩, by simp [intOf]; omega⟩
    · obtain rfl : k = pages := by omega
      obtain ⟨g6, c6, rfl, hg6, hl6, _, _⟩ := ho.tight (by simp; omega)
      have HN := Lib.hid (rfl : (l ++ List.replicate k p).length = (l ++ List.replicate k p).length)
      generalize hn : (l ++ List.replicate k p).length = n at *
      have a0 := hAr.cells.1
      have a1 := hAr.cells.2.1
      have t0 := hTr.cells.1
      have t1 := hTr.cells.2.1
      have tf0 := hTr.cells.2.2.1
      have tf1 := hTr.cells.2.2.2
      have hT1 := hTr.set0 (.int .i64 size)
      have u1 := hT1.cells.2.1
      have uf1 := hT1.cells.2.2.2
      have hT2 := hT1.set1 (.slice (some ⟨g6, 0, none⟩) n c6)
      have r0 := hT2.cells.1
      have r1 := hT2.cells.2.1
      have ho8 := (ho.far (R := w.heap.size + 1) (i := 0) (by omega) (.int .i64 size)).far (R := w.heap.size + 1) (i := 1) (by omega) (.slice (some ⟨g6, 0, none⟩) n c6)
      have hn' := Lib.hid hn
      clear hn HN
      go_wp2
      have hxF := (hx.setCell (p := ⟨w.heap.size + 1, 0, none⟩) (Nat.le_succ _) (.int .i64 size)).setCell (p := ⟨w.heap.size + 1, 1, none⟩) (Nat.le_succ _) (.slice (some ⟨g6, 0, none⟩) n c6)
      exact bodyPost_ret (v := .tuple #[.agg #[.int .i64 size, .slice (some ⟨g6, 0, none⟩) n c6], .int .i64 0]) (by simp [results, Tryz.results42, go_sem, r0, r1]) rfl ⟨⟨_, rfl, NextR.own (ho8.low (Nat.le_trans (Nat.le_succ _) (Nat.le_succ _))) hn'.out.symm HG.out⟩, hxF⟩
end
section
open Go.RowKit
set_option linter.unusedVariables false
set_option linter.unusedSimpArgs false
set_option linter.unusedSectionVars false
set_option maxRecDepth 20000

theorem refCellsOf_slC (p : ByteArray) (hv : ValidR p) (W : World) :
    Calls Tryz.prog 64 #[.string p] W fun e w' => ∃ A cap, e = .returned (.slice A (cnt p) cap) ∧ SlC w' A (cnt p) (cel p) ∧ Ext W w' :=
  (refCellsOf_any _ W hv).mono (by
    rintro e w2 ⟨v, rfl, hown, hx2⟩
    obtain ⟨A, cap, rfl, hs⟩ := slC_of_row hown
    exact ⟨A, cap, rfl, hs, hx2⟩)
theorem keep_pos {l : List ByteArray} : ∀ n, 1 ≤ n → 1 ≤ keepF l n ∧ keepF l n ≤ n := by
  intro n
  induction n with
  | zero => intro h; omega
  | succ n ih =>
    intro _
    by_cases h : 1 ≤ n ∧ cnt (nthB l n) = 0
    · rw [keep_yes h]
      have := ih h.1
      omega
    · rw [keep_no h]; omega
set_option maxHeartbeats 1000000 in
theorem refShrink7 (P : Option Addr) (size cap : Nat) (l : List ByteArray) {w : World} (h : RS w P cap size l) :
    Calls Tryz.prog 44 #[.agg #[.int .i64 size, .slice P l.length cap]] w fun e w' => (∃ v, e = .returned (.tuple #[v, .int .i64 ((l.length - keepF l l.length : Nat) : Int)]) ∧ NextR w P w' v size (l.take (keepF l l.length))) ∧ Ext w w' := by
  have hle := h.le
  have hpos := h.pos
  have hkp := keep_pos (l := l) l.length hpos
  obtain ⟨K, hK0⟩ : ∃ K, keepF l l.length = K := ⟨_, rfl⟩
  rw [hK0] at hkp ⊢
  have HG := Lib.hid (h.goodL.take _ hkp.1 hkp.2)
  have HK0 := Lib.hid hK0
  clear hK0
  obtain ⟨b, off, rfl, _⟩ := h.cell 0 (by omega)
  have hs1 : (w.alloc (.cells #[.int .i64 size, .slice (some ⟨b, off, none⟩) l.length cap] 28)).heap.size = w.heap.size + 1 := by simp
  have hs2 : ((w.alloc (.cells #[.int .i64 size, .slice (some ⟨b, off, none⟩) l.length cap] 28)).alloc (.cells #[.int .i64 0, .slice none 0 0] 28)).heap.size = w.heap.size + 1 + 1 := by simp
  have hRA := (TCell.new 28 w (.int .i64 size) (.slice (some ⟨b, off, none⟩) l.length cap)).ext ((Ext.refl _).alloc (.cells #[.int .i64 0, .slice none 0 0] 28))
  have hRB := TCell.new 28 (w.alloc (.cells #[.int .i64 size, .slice (some ⟨b, off, none⟩) l.length cap] 28)) (.int .i64 0) (.slice none 0 0)
  rw [hs1] at hRB
  have hx0 := ((Ext.refl w).alloc (.cells #[.int .i64 size, .slice (some ⟨b, off, none⟩) l.length cap] 28)).alloc (.cells #[.int .i64 0, .slice none 0 0] 28)
  have a1 := hRA.cells.2.1
  go_enter Tryz.func44, Tryz.ntmps44
  go_wp2
  generalize hW2 : (w.alloc (.cells #[.int .i64 size, .slice (some ⟨b, off, none⟩) l.length cap] 28)).alloc (.cells #[.int .i64 0, .slice none 0 0] 28) = W2 at *
  clear a1 hW2
  go_loopw [4] (fun n wr => ∃ m : Nat, 1 ≤ m ∧ m ≤ l.length ∧ n = .int .i64 m ∧ keepF l m = K ∧ Ext W2 wr) (fun n _ => (intOf n).toNat)
  case atStart => exact ⟨l.length, hpos, Nat.le_refl _, rfl, HK0.out, Ext.refl _⟩
  case round =>
    obtain ⟨m, hm1, hm2, rfl, hK, hx⟩ := hrel
    have hA := hRA.ext hx
    have hB := hRB.ext hx
    have a0 := hA.cells.1
    have a1 := hA.cells.2.1
    by_cases h1 : m = 1
    · obtain rfl : K = m := by rw [← hK]; subst h1; exact keep_no (by omega)
      have c9 : ¬ (1 : Int) < K := by omega
      clear hK hkp h1
      have hx1 := (hx0.trans hx).alloc (.cells #[] 9)
      have HT := Lib.hid (show (l.take K).length = K from by rw [List.length_take]; omega)
      have hSl := (h.ext hx1).sl.takes K
      have hsz := hx.size
      have c2 : (K : Int) ≤ cap := by have := h.sl.le; omega
      have k9 : IntKind.i64.wrap ((l.length : Int) - K) = ((l.length - K : Nat) : Int) := by rw [show (l.length : Int) - K = ((l.length - K : Nat) : Int) from by omega]; exact IntWalk.i64_in _ ⟨by omega, by omega⟩
      have axx := (hA.ext ((Ext.refl _).alloc (.cells #[] 9))).cells.2.1
      go_wp2_with (at_builtin; refine wpList_app_G _ elemS rfl _ _ rfl (base := w.heap.size + 1 + 1) rfl (OwnG.lit0 (by omega)) (m := l.take K) (by rw [HT.out]; rfl) hSl (fun e => by cases e) (by rw [HT.out]; simp; omega) (by rw [HT.out]; simp; omega) (by simp; omega) ?_; intro v7 w7 ho7 hb7; rw [List.nil_append] at ho7; obtain ⟨g7, c7, rfl, hg7, hl7, _, _⟩ := ho7.tight (by rw [HT.out]; omega); rw [HT.out] at ho7; have hA7 := (TCell.below (hA.ext ((Ext.refl _).alloc (.cells #[] 9))) hb7 (Nat.lt_succ_of_lt (Nat.lt_succ_self _))); have hB7 := (TCell.below (hB.ext ((Ext.refl _).alloc (.cells #[] 9))) hb7 (Nat.lt_succ_self _)); have y0 := hA7.cells.1; have y1 := hA7.cells.2.1; have yf1 := hA7.cells.2.2.2; have hA8 := hA7.set1 (.slice (some ⟨g7, 0, none⟩) K c7); have z0 := hA8.cells.1; have z1 := hA8.cells.2.1; have hB8 := hB7.far (p := ⟨w.heap.size, 1, none⟩) (by simp) (.slice (some ⟨g7, 0, none⟩) K c7); have q0 := hB8.cells.1; have q1 := hB8.cells.2.1; have qf0 := hB8.cells.2.2.1; have hB9 := hB8.set0 (.int .i64 size); have s1 := hB9.cells.2.1; have sf1 := hB9.cells.2.2.2; have hB10 := hB9.set1 (.slice (some ⟨g7, 0, none⟩) K c7); have r0 := hB10.cells.1; have r1 := hB10.cells.2.1; have hx8 := below_ext hx1 hb7 (by omega))
      have ho8 := ((ho7.far (R := w.heap.size) (i := 1) (by omega) (.slice (some ⟨g7, 0, none⟩) K c7)).far (R := w.heap.size + 1) (i := 0) (by omega) (.int .i64 size)).far (R := w.heap.size + 1) (i := 1) (by omega) (.slice (some ⟨g7, 0, none⟩) K c7)
      have hxF := ((hx8.setCell (p := ⟨w.heap.size, 1, none⟩) (Nat.le_refl _) (.slice (some ⟨g7, 0, none⟩) K c7)).setCell (p := ⟨w.heap.size + 1, 0, none⟩) (Nat.le_succ _) (.int .i64 size)).setCell (p := ⟨w.heap.size + 1, 1, none⟩) (Nat.le_succ _) (.slice (some ⟨g7, 0, none⟩) K c7)
      exact bodyPost_ret (v := .tuple #[.agg #[.int .i64 size, .slice (some ⟨g7, 0, none⟩) K c7], .int .i64 ((l.length - K : Nat) : Int)]) (by simp [results, Tryz.results44, go_sem, r0, r1]) rfl ⟨⟨_, rfl, NextR.own (ho8.low (Nat.le_trans (Nat.le_succ _) (Nat.le_succ _))) HT.out.symm HG.out⟩, hxF⟩
    · obtain ⟨m', rfl⟩ : ∃ m', m = m' + 1 := ⟨m - 1, by omega⟩
      obtain ⟨b', off', e', hc⟩ := h.cell m' (by omega)
      simp only [Option.some.injEq, Addr.mk.injEq, and_true] at e'
      obtain ⟨rfl, rfl⟩ := e'
      have hcr := (hx0.trans hx).cell hc
      have hv := (h.good m' (by omega)).1
      have hCc := fun W => refCellsOf_slC (nthB l m') hv W
      have hcl := cnt_le hv
      obtain ⟨M, hMm⟩ : ∃ M, m' + 1 = M := ⟨_, rfl⟩
      have kM : IntKind.i64.wrap ((M : Int) - 1) = m' := by rw [show (M : Int) - 1 = m' from by omega]; exact IntWalk.i64_in _ ⟨by omega, by omega⟩
      have c1 : (1 : Int) < M := by omega
      have hMl : M ≤ l.length := by omega
      have c3 : (m' : Int) < l.length := by omega
      by_cases h0 : cnt (nthB l m') = 0
      · have hk := keep_yes (l := l) (n := m') ⟨by omega, h0⟩
        have c4 : ((cnt (nthB l m') : Int) == 0) = true := by simp [h0]
        rw [hk] at hK
        have HK := Lib.hid hK
        have HMm := Lib.hid (show m' < M from by omega)
        have hlt' : m' < l.length := by omega
        have hge : 1 ≤ m' := by omega
        rw [hMm] at *
        clear hK hk h0 hkp hMm hm1 hm2
        generalize cnt (nthB l m') = c at *
        go_wp2_with (go_at_call 64; refine (hCc _).mono ?_; rintro e w5 ⟨P5, c5, rfl, hs5, hx5⟩)
        exact ⟨⟨m', hge, by omega, rfl, HK.out, hx.trans hx5⟩, by have := HMm.out; simp [intOf]; omega⟩
      · obtain rfl : K = M := by rw [← hK, ← hMm]; exact keep_no (fun e => h0 e.2)
        have c4 : ((cnt (nthB l m') : Int) == 0) = false := by simpa using h0
        rw [hMm] at *
        clear hK hkp h0 hc
        generalize cnt (nthB l m') = c at *
        clear hMm
        have hdum := hx0
        have HT := Lib.hid (show (l.take K).length = K from by rw [List.length_take]; omega)
        have hdum2 := hx0
        have hsz := hx.size
        have c2 : (K : Int) ≤ cap := by have := h.sl.le; omega
        have k9 : IntKind.i64.wrap ((l.length : Int) - K) = ((l.length - K : Nat) : Int) := by rw [show (l.length : Int) - K = ((l.length - K : Nat) : Int) from by omega]; exact IntWalk.i64_in _ ⟨by omega, by omega⟩
        go_wp2_with (first | (go_at_call 64; refine (hCc _).mono ?_; rintro e w5 ⟨P5, c5, rfl, hs5, hx5⟩; have hA5 := hA.ext hx5; have y50 := hA5.cells.1; have y51 := hA5.cells.2.1; have hsz5 := hx5.size; have ax5 := (hA5.ext ((Ext.refl _).alloc (.cells #[] 9))).cells.2.1) | (at_builtin; have hx1 := (hx0.trans (hx.trans hx5)).alloc (.cells #[] 9); have hSl := (h.ext hx1).sl.takes K; refine wpList_app_G _ elemS rfl _ _ rfl (base := w.heap.size + 1 + 1) rfl (OwnG.lit0 (by omega)) (m := l.take K) (by rw [HT.out]; rfl) hSl (fun e => by cases e) (by rw [HT.out]; simp; omega) (by rw [HT.out]; simp; omega) (by simp; omega) ?_; intro v7 w7 ho7 hb7; rw [List.nil_append] at ho7; obtain ⟨g7, c7, rfl, hg7, hl7, _, _⟩ := ho7.tight (by rw [HT.out]; omega); rw [HT.out] at ho7; have hA7 := (TCell.below (hA5.ext ((Ext.refl _).alloc (.cells #[] 9))) hb7 (Nat.lt_succ_of_lt (Nat.lt_succ_self _))); have hB7 := (TCell.below ((hB.ext hx5).ext ((Ext.refl _).alloc (.cells #[] 9))) hb7 (Nat.lt_succ_self _)); have y0 := hA7.cells.1; have y1 := hA7.cells.2.1; have yf1 := hA7.cells.2.2.2; have hA8 := hA7.set1 (.slice (some ⟨g7, 0, none⟩) K c7); have z0 := hA8.cells.1; have z1 := hA8.cells.2.1; have hB8 := hB7.far (p := ⟨w.heap.size, 1, none⟩) (by simp) (.slice (some ⟨g7, 0, none⟩) K c7); have q0 := hB8.cells.1; have q1 := hB8.cells.2.1; have qf0 := hB8.cells.2.2.1; have hB9 := hB8.set0 (.int .i64 size); have s1 := hB9.cells.2.1; have sf1 := hB9.cells.2.2.2; have hB10 := hB9.set1 (.slice (some ⟨g7, 0, none⟩) K c7); have r0 := hB10.cells.1; have r1 := hB10.cells.2.1; have hx8 := below_ext hx1 hb7 (by omega)))
        have ho8 := ((ho7.far (R := w.heap.size) (i := 1) (by omega) (.slice (some ⟨g7, 0, none⟩) K c7)).far (R := w.heap.size + 1) (i := 0) (by omega) (.int .i64 size)).far (R := w.heap.size + 1) (i := 1) (by omega) (.slice (some ⟨g7, 0, none⟩) K c7)
        have hxF := ((hx8.setCell (p := ⟨w.heap.size, 1, none⟩) (Nat.le_refl _) (.slice (some ⟨g7, 0, none⟩) K c7)).setCell (p := ⟨w.heap.size + 1, 0, none⟩) (Nat.le_succ _) (.int .i64 size)).setCell (p := ⟨w.heap.size + 1, 1, none⟩) (Nat.le_succ _) (.slice (some ⟨g7, 0, none⟩) K c7)
        exact bodyPost_ret (v := .tuple #[.agg #[.int .i64 size, .slice (some ⟨g7, 0, none⟩) K c7], .int .i64 ((l.length - K : Nat) : Int)]) (by simp [results, Tryz.results44, go_sem, r0, r1]) rfl ⟨⟨_, rfl, NextR.own (ho8.low (Nat.le_trans (Nat.le_succ _) (Nat.le_succ _))) HT.out.symm HG.out⟩, hxF⟩
end
section
open Go.RowKit
set_option linter.unusedVariables false
set_option linter.unusedSimpArgs false
set_option linter.unusedSectionVars false
set_option maxRecDepth 20000

theorem OwnG.slN {α : Type} {cs : α → List Value} {t e : TypeId} {k bytes : Nat} (E : ElemG cs t e k bytes) {w : World} {base : Nat} {v : Value} {l : List α} (h : OwnG cs e k w base v l) (hl : l.length ≤ 9223372036854775807) : ∃ P cap, v = .slice P l.length cap ∧ SlG cs w P cap l ∧ (P = none → cap = 0) := by
  rcases h.2 with ⟨rfl, h0⟩ | ⟨g, cap, cur, rfl, hb, hg, rest⟩
  · obtain rfl := List.length_eq_zero_iff.1 h0
    exact ⟨none, 0, rfl, SlG.nil _ _, fun _ => rfl⟩
  · obtain ⟨P, c, e, hs⟩ := h.slG E hl
    injection e with e1 _ e3
    subst e1 e3
    exact ⟨_, _, rfl, hs, fun e => by cases e⟩
set_option maxHeartbeats 1000000 in
theorem sPlaces_no (A g size cap : Nat) (l : List ByteArray) (lv : List UInt8) (x : Int) (w : World) (h : Sp w A g size l lv cap) (hx : ¬ (0 ≤ x ∧ x < l.length)) :
    Calls Tryz.prog 21 #[.pointer (some ⟨A, 0, none⟩), .int .i64 x] w fun e w' => e = .returned (.tuple #[.slice none 0 0, .int .i64 7]) ∧ Ext w w' := by
  have hA := asked_is A lv size (some ⟨g, 0, none⟩) l.length cap x w h.ar (by have := h.le; omega)
  rw [if_neg hx] at hA
  go_enter Tryz.func21, Tryz.ntmps21
  go_wp2_with (go_at_call 55; refine hA.mono ?_; rintro e w1 ⟨rfl, rfl⟩)
  go_ret2
  exact ⟨rfl, Ext.refl w⟩
set_option maxHeartbeats 1000000 in
theorem sPlaces_at (A g size cap : Nat) (l : List ByteArray) (lv : List UInt8) (q : Nat) (w : World) (h : Sp w A g size l lv cap) (hq : q < l.length) :
    Calls Tryz.prog 21 #[.pointer (some ⟨A, 0, none⟩), .int .i64 q] w fun e w' => (∃ v, e = .returned (.tuple #[v, .int .i64 0]) ∧ OwnAd w' w.heap.size v (plL q (nthB l q) (cnt (nthB l q)))) ∧ Ext w w' := by
  have hA := asked_is A lv size (some ⟨g, 0, none⟩) l.length cap q w h.ar (by have := h.le; omega)
  rw [if_pos ⟨by omega, by omega⟩] at hA
  have hP := splaces_any A g size cap l lv q w h hq
  go_enter Tryz.func21, Tryz.ntmps21
  go_wp2_with (first
    | (go_at_call 55; refine hA.mono ?_; rintro e w1 ⟨rfl, rfl⟩)
    | (go_at_call 65; refine hP.mono ?_; rintro e w2 ⟨⟨v, rfl, ho⟩, hx2⟩))
  go_ret2
  exact ⟨⟨_, rfl, ho⟩, hx2⟩
/-- all places of the first k pages -/
noncomputable def allL (l : List ByteArray) (k : Nat) : List (Int × Int) := (List.range k).flatMap fun i : Nat => plL (i : Int) (nthB l i) (cnt (nthB l i))
theorem allL_succ (l : List ByteArray) (k : Nat) : allL l (k + 1) = allL l k ++ plL k (nthB l k) (cnt (nthB l k)) := by simp [allL, List.range_succ]
theorem allL_len (l : List ByteArray) (hv : ∀ i, i < l.length → ValidR (nthB l i)) : ∀ k, k ≤ l.length → (allL l k).length ≤ k * 200 := by
  intro k
  induction k with
  | zero => intro _; simp [allL]
  | succ k ih =>
    intro hk
    rw [allL_succ, List.length_append, plL_len]
    have := ih (by omega)
    have := cnt_le (hv k (by omega))
    omega
set_option maxHeartbeats 1000000 in
theorem sall_any (A g size cap : Nat) (l : List ByteArray) (lv : List UInt8) (w : World) (h : Sp w A g size l lv cap) :
    Calls Tryz.prog 24 #[.pointer (some ⟨A, 0, none⟩)] w fun e w' => (∃ v, e = .returned v ∧ OwnAd w' w.heap.size v (allL l l.length)) ∧ Ext w w' := by
  have hle := h.le
  have hal := allL_len l (fun i hi => (h.good i hi).1)
  have hP := fun q hq W hW => splaces_any A g size cap l lv q W hW hq
  go_enter Tryz.func24, Tryz.ntmps24
  go_wp2_with (go_at_call 66; refine (pages_is A lv size _ _ cap _ h.ar).mono ?_; rintro e w1 ⟨rfl, rfl⟩)
  go_loopw [3, 4, 7] (fun o _ i wr => ∃ k : Nat, k ≤ l.length ∧ i = .int .i64 k ∧ OwnAd wr w.heap.size o (allL l k) ∧ Ext w wr) (fun _ _ i _ => l.length - (intOf i).toNat)
  case atStart => exact ⟨0, by omega, rfl, OwnG.nil _ _ _ _ _, Ext.refl w⟩
  case round =>
    obtain ⟨k, hk, rfl, ho, hx⟩ := hrel
    by_cases hlt : k < l.length
    · have hPk := hP k hlt _ (h.ext hx)
      have b1 := hal k hk
      have b2 := hal (k + 1) hlt
      rw [allL_succ, List.length_append] at b2
      have HS := Lib.hid (allL_succ l k)
      have c1 : (k : Int) < l.length := by omega
      have hsz := hx.size
      clear hal hP
      generalize allL l k = L at *
      generalize plL k (nthB l k) (cnt (nthB l k)) = M at *
      go_wp2_with (first
        | (go_at_call 65; refine hPk.mono ?_; rintro e w2 ⟨⟨v2, rfl, ho2⟩, hx2⟩; obtain ⟨P2, cap2, rfl, hs2, hn2⟩ := ho2.slN elemAd (by omega); have hsz2 := hx2.size)
        | (at_builtin; refine wpList_app_G _ elemAd rfl _ _ rfl (base := w.heap.size) rfl (ho.ext hx2) rfl hs2 hn2 (by omega) (by omega) (by omega) ?_; intro v3 w3 ho3 hb3))
      refine ⟨⟨k + 1, by omega, by go_num, by rw [HS.out]; exact ho3, below_ext (hx.trans hx2) hb3 (Nat.le_refl _)⟩, by simp [intOf]; omega⟩
    · obtain rfl : k = l.length := by omega
      go_wp2
      go_ret
      exact ⟨⟨_, rfl, ho⟩, hx⟩
set_option maxHeartbeats 1000000 in
theorem refPlaces7_no (P : Option Addr) (size cap : Nat) (l : List ByteArray) (x : Int) {w : World} (hle : l.length ≤ 200) (hx : ¬ (0 ≤ x ∧ x < l.length)) :
    Calls Tryz.prog 22 #[.agg #[.int .i64 size, .slice P l.length cap], .int .i64 x] w fun e w' => e = .returned (.tuple #[.slice none 0 0, .int .i64 7]) ∧ Ext w w' := by
  have hI := fun W => refIs_any P size x l.length cap W (by omega)
  rw [decide_eq_false hx] at hI
  have hx0 := (Ext.refl w).alloc (.cells #[.int .i64 size, .slice P l.length cap] 28)
  clear hx
  go_enter Tryz.func22, Tryz.ntmps22
  go_wp2_with (go_at_call 62; refine (hI _).mono ?_; rintro e w1 ⟨rfl, hx1⟩)
  go_ret2
  exact ⟨rfl, hx0.trans hx1⟩
set_option maxHeartbeats 1000000 in
theorem refPlaces7_at (P : Option Addr) (size cap q : Nat) (l : List ByteArray) {w : World} (h : RS w P cap size l) (hq : q < l.length) :
    Calls Tryz.prog 22 #[.agg #[.int .i64 size, .slice P l.length cap], .int .i64 q] w fun e w' => (∃ v, e = .returned (.tuple #[v, .int .i64 0]) ∧ OwnAd w' w.heap.size v (plL q (nthB l q) (cnt (nthB l q)))) ∧ Ext w w' := by
  have hle := h.le
  have hI := fun W => refIs_any P size q l.length cap W (by omega)
  rw [decide_eq_true ⟨by omega, by omega⟩] at hI
  have hx0 := (Ext.refl w).alloc (.cells #[.int .i64 size, .slice P l.length cap] 28)
  have hv := (h.good q hq).1
  obtain ⟨b, off, rfl, hc⟩ := h.cell q (by omega)
  have hC := refCellsOf_slC (nthB l q) hv
  have hn := cnt_le hv
  have c1 : (q : Int) < l.length := by omega
  generalize nthB l q = p at *
  go_enter Tryz.func22, Tryz.ntmps22
  go_wp2_with (first
    | (go_at_call 62; refine (hI _).mono ?_; rintro e w1 ⟨rfl, hx1⟩; obtain ⟨c0, c1', f0, f1⟩ := ar_box _ _ hx1; have hcc := (hx0.trans hx1).cell hc)
    | (go_at_call 64; refine (hC _).mono ?_; rintro e w2 ⟨B, capB, rfl, hS, hx2⟩))
  have hx02 := hx0.trans (hx1.trans hx2)
  go_loopw [7, 8] (fun o i wr => ∃ k : Nat, k ≤ cnt p ∧ i = .int .i64 k ∧ OwnAd wr w2.heap.size o (plL q p k) ∧ Ext w wr ∧ Ext w2 wr) (fun _ i _ => cnt p - (intOf i).toNat)
  case atStart => exact ⟨0, by omega, rfl, OwnG.nil _ _ _ _ _, hx02, Ext.refl _⟩
  case round =>
    obtain ⟨k, hk, rfl, ho, hx, hxx⟩ := hrel
    by_cases hlt : k < cnt p
    · obtain ⟨b2, off2, rfl, hca, hcb⟩ := hS.at_ k hlt
      have hcr := hxx.cell hca
      have hsz := hxx.size
      have HS := Lib.hid (plL_succ q p k)
      have HL := Lib.hid (plL_len q p k)
      have c2 : (k : Int) < cnt p := by omega
      clear hca hcb hS
      generalize plL q p k = L at *
      generalize (cel p k).1 = y at *
      have hone := SlG.one (w := wr) (cs := csAd) elemAd.hk ((q : Int), y) (t0 := 33) (C := #[.int .i64 q, .int .i64 y]) rfl rfl
      go_wp2_with (at_builtin; refine wpList_app_G _ elemAd rfl _ _ rfl (base := w2.heap.size) rfl (ho.ext ((Ext.refl _).alloc _)) (m := [((q : Int), y)]) rfl hone (fun e => by cases e) (by rw [HL.out]; simp; omega) (by rw [HL.out]; simp; omega) (by simp; omega) ?_; intro v3 w3 ho3 hb3)
      refine ⟨⟨k + 1, by omega, by go_num, by rw [HS.out]; exact ho3, ?_, ?_⟩, by simp [intOf]; omega⟩
      · exact below_ext (hx.alloc _) hb3 hx02.size
      · exact below_ext (hxx.alloc _) hb3 (Nat.le_refl _)
    · obtain rfl : k = cnt p := by omega
      go_wp2
      go_ret2
      exact ⟨⟨_, rfl, ho.low hx02.size⟩, hx⟩
set_option maxHeartbeats 1000000 in
theorem refAll7 (P : Option Addr) (size cap : Nat) (l : List ByteArray) {w : World} (h : RS w P cap size l) :
    Calls Tryz.prog 11 #[.agg #[.int .i64 size, .slice P l.length cap]] w fun e w' => (∃ v, e = .returned v ∧ OwnAd w' w.heap.size v (allL l l.length)) ∧ Ext w w' := by
  have hle := h.le
  have hal := allL_len l (fun i hi => (h.good i hi).1)
  have hP := fun q hq (W : World) hW => refPlaces7_at P size cap q l (w := W) hW hq
  have hx0 := (Ext.refl w).alloc (.cells #[.int .i64 size, .slice P l.length cap] 28)
  go_enter Tryz.func11, Tryz.ntmps11
  go_wp2
  go_loopw [3, 4, 5, 6] (fun o i _ _ wr => ∃ k : Nat, k ≤ l.length ∧ i = .int .i64 k ∧ OwnAd wr (w.alloc (.cells #[.int .i64 size, .slice P l.length cap] 28)).heap.size o (allL l k) ∧ Ext (w.alloc (.cells #[.int .i64 size, .slice P l.length cap] 28)) wr) (fun _ i _ _ _ => l.length - (intOf i).toNat)
  case atStart => exact ⟨0, by omega, rfl, OwnG.nil _ _ _ _ _, Ext.refl _⟩
  case round =>
    obtain ⟨k, hk, rfl, ho, hx⟩ := hrel
    obtain ⟨c0, c1, f0, f1⟩ := ar_box _ _ hx
    by_cases hlt : k < l.length
    · have hPk := hP k hlt _ (h.ext (hx0.trans hx))
      have b1 := hal k hk
      have b2 := hal (k + 1) hlt
      rw [allL_succ, List.length_append] at b2
      have HS := Lib.hid (allL_succ l k)
      have c2 : (k : Int) < l.length := by omega
      have hsz := (hx0.trans hx).size
      clear hal hP
      generalize allL l k = L at *
      generalize plL k (nthB l k) (cnt (nthB l k)) = M at *
      go_wp2_with (first
        | (go_at_call 22; refine hPk.mono ?_; rintro e w2 ⟨⟨v2, rfl, ho2⟩, hx2⟩; obtain ⟨P2, cap2, rfl, hs2, hn2⟩ := ho2.slN elemAd (by omega); have hsz2 := hx2.size)
        | (at_builtin; refine wpList_app_G _ elemAd rfl _ _ rfl (base := (w.alloc (.cells #[.int .i64 size, .slice P l.length cap] 28)).heap.size) rfl (ho.ext hx2) rfl hs2 hn2 (by omega) (by omega) (Nat.le_trans hx.size hsz2) ?_; intro v3 w3 ho3 hb3))
      refine ⟨⟨k + 1, by omega, by go_num, by rw [HS.out]; exact ho3, below_ext (hx.trans hx2) hb3 (Nat.le_refl _)⟩, by simp [intOf]; omega⟩
    · obtain rfl : k = l.length := by omega
      go_wp2
      go_ret
      exact ⟨⟨_, rfl, ho.low hx0.size⟩, hx0.trans hx⟩
end
end Go.Proofs.YtnileonlabpbpaaGreat
