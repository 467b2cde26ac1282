/- ItPD; ItPE; ItNA (merged by group.py) -/
import Derived.Test.YtepgpejdnlejnaaDoorQ11
import Derived.StillTailTactics
import Derived.Test.YtepgpejdnlejnaaDoorQ17
import Derived.Test.YtepgpejdnlejnaaDoorQ07
namespace Go.Proofs.YtepgpejdnlejnaaDoor
section
open Go.RowKit
set_option linter.unusedVariables false
set_option linter.unusedSimpArgs false
set_option linter.unusedSectionVars false
set_option maxRecDepth 20000
attribute [local go_sem] Oper.semAt_some

def defV (x : It) : Vl := (x.2.1, if x.2.1 = 1 then min (max 0 x.2.2.1) x.2.2.2.1 else 0, ⟨#[]⟩)
def defF (l : List It) : List Vl × Int := if itemsB l = true then (l.map defV, 0) else ([], 1)
theorem defs_take {l : List It} {k : Nat} (hk : k < l.length) : (l.take (k + 1)).map defV = (l.take k).map defV ++ [defV (nthT l k)] := by
  rw [List.take_add_one, nthT_some hk]
  simp
set_option maxHeartbeats 8000000 in
theorem default_any (P : Option Addr) (cap : Nat) (l : List It) (w : World) (h : SlT w P cap l) :
    Calls Tryd.prog 42 #[.slice P l.length cap] w fun e w' => (∃ u, e = .returned (.tuple #[u, .int .i64 (defF l).2]) ∧ ResV w' u (defF l).1) ∧ Ext w w' := by
  have hlen := h.len
  have hF := items_any P cap l w h
  cases hf : itemsB l with
  | false =>
    have HB := Lib.hid (show defF l = ([], 1) from by simp [defF, hf])
    rw [hf] at hF
    rw [HB.out]
    go_enter Tryd.func42, Tryd.ntmps42
    go_wp2_with (go_at_call 20; refine hF.mono ?_; rintro e w1 ⟨rfl, hx1⟩)
    go_ret2
    exact ⟨⟨_, rfl, ResV.nil _⟩, hx1⟩
  | true =>
    have HB := Lib.hid (show defF l = (l.map defV, 0) from by simp [defF, hf])
    have hl := items_le8 hf
    rw [hf] at hF
    rw [HB.out]
    clear hf
    go_enter Tryd.func42, Tryd.ntmps42
    go_wp2_with (go_at_call 20; refine hF.mono ?_; rintro e w1 ⟨rfl, hx1⟩)
    go_loopw [13, 4, 6, 7] (fun i v _ _ wr => ∃ k : Nat, k ≤ l.length ∧ i = .int .i64 k ∧ OwnG Vl.cells 29 3 wr w.heap.size v ((l.take k).map defV) ∧ Ext w wr) (fun i _ _ _ _ => l.length - (intOf i).toNat)
    case atStart => exact ⟨0, by omega, rfl, OwnG.nil _ _ _ _ _, hx1⟩
    case round =>
      obtain ⟨k, hk, rfl, hown, hx⟩ := hrel
      by_cases hlt : k < l.length
      · obtain ⟨b, off, hP, g0, g1, g2, g3, g4⟩ := h.itemAt k hlt
        subst hP
        have g0 := hx.cell g0
        have g1 := hx.cell g1
        have g2 := hx.cell g2
        have g3 := hx.cell g3
        have g4 := hx.cell g4
        have c1 : (k : Int) < l.length := by omega
        have d1 : IntKind.i64.wrap ((k : Int) + 1) = (k : Int) + 1 := IntWalk.i64_in _ ⟨by omega, by omega⟩
        have Hs := Lib.hid (defs_take hlt)
        have Hd := Lib.hid (show defV (nthT l k) = ((nthT l k).2.1, if (nthT l k).2.1 = 1 then min (max 0 (nthT l k).2.2.1) (nthT l k).2.2.2.1 else 0, ⟨#[]⟩) from rfl)
        have HO := Lib.hid hown
        generalize defV (nthT l k) = dv at *
        generalize nthT l k = x at *
        obtain ⟨x0, x1, x2, x3, x4⟩ := x
        simp only at g0 g1 g2 g3 g4 Hd
        clear hown
        by_cases h1 : x1 = 1
        · subst h1
          go_wp2_with (at_builtin; refine wpList_app_G _ elemV rfl _ _ rfl (base := w.heap.size) rfl (HO.out.ext ((((Ext.refl _).alloc _).alloc _).alloc _)) (m := [(1, min (max 0 x2) x3, ⟨#[]⟩)]) rfl (SlG.one elemV.hk _ ?c1 ?c2) ?c3 ?c4 ?c5 ?c6 ?_)
          case c1 => rfl
          case c4 => first | omega | (simp; omega)
          case c5 => first | omega | (simp; omega)
          case c6 => have := hx.size; simp; omega
          intro v' w3 hown' hbl
          go_wp2
          go_roundw
          case rel => exact ⟨k + 1, by omega, by go_num, by rw [Hs.out, Hd.out]; simpa  using hown', below_ext ((((hx).alloc _).alloc _).alloc _) hbl (Nat.le_refl _)⟩
          case measure => simp [intOf]; omega
        · have h1' : (x1 == 1) = false := by simpa using h1
          go_wp2_with (at_builtin; refine wpList_app_G _ elemV rfl _ _ rfl (base := w.heap.size) rfl (HO.out.ext ((((Ext.refl _).alloc _).alloc _).alloc _)) (m := [(x1, 0, ⟨#[]⟩)]) rfl (SlG.one elemV.hk _ ?e1 ?e2) ?e3 ?e4 ?e5 ?e6 ?_)
          case e1 => rfl
          case e4 => first | omega | (simp; omega)
          case e5 => first | omega | (simp; omega)
          case e6 => have := hx.size; simp; omega
          intro v' w3 hown' hbl
          go_wp2
          go_roundw
          case rel => exact ⟨k + 1, by omega, by go_num, by rw [Hs.out, Hd.out]; simpa [h1] using hown', below_ext ((((hx).alloc _).alloc _).alloc _) hbl (Nat.le_refl _)⟩
          case measure => simp [intOf]; omega
      · obtain rfl : k = l.length := by omega
        rw [List.take_length] at hown
        obtain ⟨P9, cap9, hv9, s9⟩ := OwnG.slG elemV hown (by simp; omega)
        subst hv9
        go_wp2
        go_ret2
        exact ⟨⟨_, rfl, _, _, rfl, s9⟩, hx⟩

theorem minmax {a b : Int} (h : a ≤ b) : max a (min 0 b) = min (max 0 a) b := by omega
theorem items_low {l : List It} (h : itemsB l = true) {k : Nat} (hk : k < l.length) (h1 : (nthT l k).2.1 = 1) : (nthT l k).2.2.1 ≤ (nthT l k).2.2.2.1 := by
  have hg : goodT l k := by
    unfold itemsB knownB at h
    rw [Bool.and_eq_true, Bool.and_eq_true, List.all_eq_true] at h
    exact of_decide_eq_true (h.2.1 k (List.mem_range.2 hk))
  have hi := hg.1
  unfold itemB at hi
  rw [if_pos h1, Bool.and_eq_true] at hi
  exact (of_decide_eq_true hi.2).1
set_option maxHeartbeats 8000000 in
theorem rdefault_any (P : Option Addr) (cap : Nat) (l : List It) (w : World) (h : SlT w P cap l) :
    Calls Tryd.prog 43 #[.slice P l.length cap] w fun e w' => (∃ u, e = .returned (.tuple #[u, .int .i64 (defF l).2]) ∧ ResV w' u (defF l).1) ∧ Ext w w' := by
  have hlen := h.len
  have hF := ritems_any P cap l w h
  cases hf : itemsB l with
  | false =>
    have HB := Lib.hid (show defF l = ([], 1) from by simp [defF, hf])
    rw [hf] at hF
    rw [HB.out]
    go_enter Tryd.func43, Tryd.ntmps43
    go_wp2_with (go_at_call 21; refine hF.mono ?_; rintro e w1 ⟨rfl, hx1⟩)
    go_ret2
    exact ⟨⟨_, rfl, ResV.nil _⟩, hx1⟩
  | true =>
    have HB := Lib.hid (show defF l = (l.map defV, 0) from by simp [defF, hf])
    have hl := items_le8 hf
    have HF := Lib.hid hf
    rw [hf] at hF
    rw [HB.out]
    clear hf
    go_enter Tryd.func43, Tryd.ntmps43
    go_wp2_with (go_at_call 21; refine hF.mono ?_; rintro e w1 ⟨rfl, hx1⟩)
    go_loopw [5, 4, 6] (fun i v _ wr => ∃ k : Nat, k ≤ l.length ∧ i = .int .i64 k ∧ OwnG Vl.cells 29 3 wr w.heap.size v ((l.take k).map defV) ∧ Ext w wr) (fun i _ _ _ => l.length - (intOf i).toNat)
    case atStart => exact ⟨0, by omega, rfl, OwnG.nil _ _ _ _ _, hx1⟩
    case round =>
      obtain ⟨k, hk, rfl, hown, hx⟩ := hrel
      by_cases hlt : k < l.length
      · obtain ⟨b, off, hP, g0, g1, g2, g3, g4⟩ := h.itemAt k hlt
        subst hP
        have y0 := hx.cell g0
        have y1 := hx.cell g1
        have y2 := hx.cell g2
        have y3 := hx.cell g3
        have y4 := hx.cell g4
        have hblt : b < wr.heap.size := block_lt y0
        have c1 : (k : Int) < l.length := by omega
        have d1 : IntKind.i64.wrap ((k : Int) + 1) = (k : Int) + 1 := IntWalk.i64_in _ ⟨by omega, by omega⟩
        have Hs := Lib.hid (defs_take hlt)
        have Hd := Lib.hid (show defV (nthT l k) = ((nthT l k).2.1, if (nthT l k).2.1 = 1 then min (max 0 (nthT l k).2.2.1) (nthT l k).2.2.2.1 else 0, ⟨#[]⟩) from rfl)
        have HM := Lib.hid (fun h1 => minmax (items_low HF.out hlt h1))
        have HO := Lib.hid hown
        generalize defV (nthT l k) = dv at *
        generalize nthT l k = x at *
        obtain ⟨x0, x1, x2, x3, x4⟩ := x
        simp only at y0 y1 y2 y3 y4 Hd HM
        clear g0 g1 g2 g3 g4
        clear hown
        by_cases h1 : x1 = 1
        · subst h1
          go_wp2
          have hxA := hx.alloc (.cells #[.int .i64 1, .int .i64 0, .string ⟨#[]⟩] 29)
          have hxW := (Ext.refl wr).alloc (.cells #[.int .i64 1, .int .i64 0, .string ⟨#[]⟩] 29)
          have k2 := hxW.cell y2
          have k3 := hxW.cell y3
          have m0 : (wr.alloc (.cells #[.int .i64 1, .int .i64 0, .string ⟨#[]⟩] 29)).cell? ⟨wr.heap.size, 0, none⟩ = some (.int .i64 1) := (World.cell?_alloc_mark _ _ _ _ 0).trans rfl
          have m1 : (wr.alloc (.cells #[.int .i64 1, .int .i64 0, .string ⟨#[]⟩] 29)).cell? ⟨wr.heap.size, 1, none⟩ = some (.int .i64 0) := (World.cell?_alloc_mark _ _ _ _ 1).trans rfl
          have m2 : (wr.alloc (.cells #[.int .i64 1, .int .i64 0, .string ⟨#[]⟩] 29)).cell? ⟨wr.heap.size, 2, none⟩ = some (.string ⟨#[]⟩) := (World.cell?_alloc_mark _ _ _ _ 2).trans rfl
          have m3 : (wr.alloc (.cells #[.int .i64 1, .int .i64 0, .string ⟨#[]⟩] 29)).frozen? ⟨wr.heap.size, 1, none⟩ = false := frozen_of_row _ _ _ _ _ (heap_alloc_new wr _)
          generalize wr.alloc (.cells #[.int .i64 1, .int .i64 0, .string ⟨#[]⟩] 29) = W at *
          go_still_tail 12, (by kernel_rfl)
          have HXW := Lib.hid hxW
          have HXA := Lib.hid hxA
          clear hxW hxA
          go_wp2_with (at_builtin; refine wpList_app_G _ elemV rfl _ _ rfl (base := w.heap.size) rfl (HO.out.ext (((HXW.out.setCell ?f7 _).alloc _).drew)) (m := [(1, max x2 (min 0 x3), ⟨#[]⟩)]) rfl ((SlG.one elemV.hk _ ?f1 ?f2).ext (Ext.refl _).drew) ?f3 ?f4 ?f5 ?f6 ?_)
          case f1 => rfl
          case f2 => simp
          case f3 => intro e; cases e
          case f4 => first | omega | (simp; omega)
          case f5 => first | omega | (simp; omega)
          case f6 => have := HXA.out.size; first | omega | (simp; omega)
          intro v' w3 hown' hbl
          go_wp2
          go_roundw
          case rel => exact ⟨k + 1, by omega, by go_num, by rw [Hs.out, Hd.out]; simp only [if_true]; rw [← HM.out trivial, List.map_take]; exact hown', below_ext (((HXA.out.setCell (by have := hx.size; simp; omega) _).alloc _).drew) hbl (Nat.le_refl _)⟩
          case measure => simp [intOf]; omega
        · have h1' : (x1 == 1) = false := by simpa using h1
          go_wp2_with (at_builtin; refine wpList_app_G _ elemV rfl _ _ rfl (base := w.heap.size) rfl (HO.out.ext (((Ext.refl _).alloc _).alloc _)) (m := [(x1, 0, ⟨#[]⟩)]) rfl (SlG.one elemV.hk _ ?e1 ?e2) ?e3 ?e4 ?e5 ?e6 ?_)
          case e1 => rfl
          case e2 => simp
          case e3 => intro e; cases e
          case e4 => first | omega | (simp; omega)
          case e5 => first | omega | (simp; omega)
          case e6 => have := hx.size; first | omega | (simp; omega)
          intro v' w3 hown' hbl
          go_wp2
          go_roundw
          case rel => exact ⟨k + 1, by omega, by go_num, by rw [Hs.out, Hd.out]; simpa [h1] using hown', below_ext ((hx.alloc _).alloc _) hbl (Nat.le_refl _)⟩
          case measure => simp [intOf]; omega
      · obtain rfl : k = l.length := by omega
        rw [List.take_length] at hown
        obtain ⟨P9, cap9, hv9, s9⟩ := OwnG.slG elemV hown (by simp; omega)
        subst hv9
        go_wp2
        go_ret2
        exact ⟨⟨_, rfl, _, _, rfl, s9⟩, hx⟩
end
section
open Go.RowKit
set_option linter.unusedVariables false
set_option linter.unusedSimpArgs false
set_option linter.unusedSectionVars false
set_option maxRecDepth 20000
attribute [local go_sem] Oper.semAt_some

theorem nthV_set {r : List Vl} {q i : Nat} {v : Vl} (hq : q < r.length) : nthV (r.set q v) i = if i = q then v else nthV r i := by
  unfold nthV
  rw [List.getD_eq_getElem?_getD, List.getD_eq_getElem?_getD, List.getElem?_set]
  by_cases h : q = i
  · subst h; simp [hq]
  · rw [if_neg h, if_neg (fun e => h e.symm)]
theorem fitsB_iff {l : List It} {r : List Vl} : fitsB l r = true ↔ itemsB l = true ∧ l.length = r.length ∧ ∀ i, i < l.length → fitB (nthT l i) (nthV r i) = true := by
  unfold fitsB
  simp only [Bool.and_eq_true, decide_eq_true_eq, List.all_eq_true, List.mem_range]
theorem fitsB_set {l : List It} {r : List Vl} {q : Nat} {v : Vl} (hf : fitsB l r = true) (hq : q < l.length) (hv : fitB (nthT l q) v = true) : fitsB l (r.set q v) = true := by
  rw [fitsB_iff] at hf ⊢
  refine ⟨hf.1, by rw [List.length_set]; exact hf.2.1, fun i hi => ?_⟩
  rw [nthV_set (by omega)]
  split
  · rename_i h; subst h; exact hv
  · exact hf.2.2 i hi
theorem pickF_one {l : List It} {r : List Vl} {n : ByteArray} (hf : fitsB l r = true) (hn : 0 ≤ idxF l n) : pickF l r [n] = ([nthV r (idxF l n).toNat], 0) := by
  unfold pickF
  rw [if_pos hf, if_pos (by simpa using hn), if_pos (by simp)]
  rfl
theorem putF_cases (l : List It) (r : List Vl) (n : ByteArray) (v : Vl) : (∃ e, e ≠ 0 ∧ putF l r n v = ([], e)) ∨ (∃ q, q < r.length ∧ putF l r n v = (r.set q v, 0) ∧ fitsB l (r.set q v) = true ∧ pickF l (r.set q v) [n] = ([v], 0)) := by
  unfold putF
  by_cases h1 : fitsB l r = true
  · rw [if_pos h1]
    by_cases h2 : 0 ≤ idxF l n
    · rw [if_pos h2]
      by_cases h3 : valB v = true
      · rw [if_pos h3]
        by_cases h4 : fitB (nthT l (idxF l n).toNat) v = true
        · rw [if_pos h4]
          obtain ⟨q, e, hq⟩ := idxF_lt h2
          have h5 := (fits_len h1).1
          rw [e] at h4 ⊢
          have h6 : fitsB l (r.set q v) = true := fitsB_set h1 hq h4
          refine .inr ⟨q, by omega, rfl, h6, ?_⟩
          rw [pickF_one h6 h2, e]
          rw [show (q : Int).toNat = q from by omega, nthV_set (by omega), if_pos rfl]
        · rw [if_neg h4]; exact .inl ⟨7, by omega, rfl⟩
      · rw [if_neg h3]; exact .inl ⟨1, by omega, rfl⟩
    · rw [if_neg h2]; exact .inl ⟨5, by omega, rfl⟩
  · rw [if_neg h1]; exact .inl ⟨1, by omega, rfl⟩
theorem fit_def {x : It} (h : itemB x = true) : fitB x (defV x) = true := by
  obtain ⟨s, k, lo, hi, n⟩ := x
  unfold itemB at h
  unfold fitB valB defV withinB
  simp only [Bool.and_eq_true] at h ⊢
  by_cases hk : k = 1
  · subst hk
    simp at h ⊢
    exact ⟨⟨by omega, rfl⟩, by omega⟩
  · rw [if_neg hk] at h ⊢
    simp only [decide_eq_true_eq] at h
    obtain ⟨_, rfl, h1, h2, h3, h4⟩ := h
    refine ⟨⟨?_, ?_⟩, ?_⟩
    · exact decide_eq_true ⟨rfl, rfl, by show (0 : Nat) ≤ 40; omega⟩
    · simp
    · simp only [if_true, decide_eq_true_eq]
      show ((0 : Nat) : Int) ≤ n
      omega
theorem fits_def {l : List It} (h : itemsB l = true) : fitsB l (l.map defV) = true := by
  rw [fitsB_iff]
  refine ⟨h, by simp, fun i hi => ?_⟩
  have hg : goodT l i := by
    unfold itemsB knownB at h
    rw [Bool.and_eq_true, Bool.and_eq_true, List.all_eq_true] at h
    exact of_decide_eq_true (h.2.1 i (List.mem_range.2 hi))
  rw [show nthV (l.map defV) i = defV (nthT l i) from by
    unfold nthV nthT
    simp [hi]]
  exact fit_def hg.1
def OkL (l : List Vl) : Prop := ∀ x ∈ l, x.2.2.size ≤ 140737488355328
theorem okL_nth {r : List Vl} (h : OkL r) (i : Nat) : (nthV r i).2.2.size ≤ 140737488355328 := by
  by_cases hi : i < r.length
  · exact h _ (nthV_mem hi)
  · unfold nthV
    rw [List.getD_eq_getElem?_getD, List.getElem?_eq_none (by omega)]
    show (0 : Nat) ≤ _
    omega
theorem okL_pick {l : List It} {r : List Vl} (h : OkL r) (names : List ByteArray) : OkL (pickF l r names).1 := by
  have h0 : OkL [] := fun x hx => by cases hx
  unfold pickF
  repeat' split
  all_goals first
    | exact h0
    | (intro x hx
       obtain ⟨n, _, rfl⟩ := List.mem_map.1 hx
       exact okL_nth h _)
theorem okL_set {r : List Vl} {v : Vl} (h : OkL r) (hv : v.2.2.size ≤ 140737488355328) (q : Nat) : OkL (r.set q v) := fun x hx => by
  rcases List.mem_or_eq_of_mem_set hx with h1 | rfl
  · exact h _ h1
  · exact hv
theorem okL_def (l : List It) : OkL (defF l).1 := by
  unfold defF
  split
  · intro x hx
    obtain ⟨n, _, rfl⟩ := List.mem_map.1 hx
    show (0 : Nat) ≤ _
    omega
  · intro x hx; cases hx
/-- the list that both gave is the same -/
theorem rsame_yes (P Q : Option Addr) (c d : Nat) (l : List Vl) (w : World) (h : SlV w P c l) (h2 : SlV w Q d l) (o : OkL l) :
    Calls Tryd.prog 29 #[.slice P l.length c, .slice Q l.length d] w fun e w' => e = .returned (.bool true) ∧ Ext w w' := by
  have := rsame_any P Q c d l l w h h2 o o
  rw [(ord_rows.eq0 l l).2 rfl] at this
  exact this

theorem box3 {w W : World} {t : TypeId} {a b : Int} {c : ByteArray} (hx : Ext (w.alloc (.cells #[.int .i64 a, .int .i64 b, .string c] t)) W) : W.cell? ⟨w.heap.size, 0, none⟩ = some (.int .i64 a) ∧ W.cell? ⟨w.heap.size, 1, none⟩ = some (.int .i64 b) ∧ W.cell? ⟨w.heap.size, 2, none⟩ = some (.string c) :=
  ⟨hx.cell ((World.cell?_alloc_mark _ _ _ _ 0).trans rfl), hx.cell ((World.cell?_alloc_mark _ _ _ _ 1).trans rfl), hx.cell ((World.cell?_alloc_mark _ _ _ _ 2).trans rfl)⟩
theorem slV_one {w W : World} {t : TypeId} {v : Vl} (hx : Ext (w.alloc (.cells #[.int .i64 v.1, .int .i64 v.2.1, .string v.2.2] t)) W) : SlV W (some ⟨w.heap.size, 0, none⟩) 1 [v] :=
  (SlG.one (cs := Vl.cells) (k := 3) (fun _ => rfl) v rfl rfl).ext hx
theorem slS_one (n : ByteArray) (w : World) (t : TypeId) : SlS (w.alloc (.cells #[.string n] t)) (some ⟨w.heap.size, 0, none⟩) 1 [n] := SlG.one (cs := fun s => [.string s]) (k := 1) (fun _ => rfl) n rfl rfl
theorem rw_pair {W w1 : World} {Q0 Q1 : Option Addr} {c0 c1 : Nat} {r0 r1 : List Vl} (h0 : SlV W Q0 c0 r0) (h1 : SlV W Q1 c1 r1) {t : TypeId} (hx : Ext (W.alloc (.cells #[.slice Q0 r0.length c0, .slice Q1 r1.length c1] t)) w1) :
    SlG Rw.cells w1 (some ⟨W.heap.size, 0, none⟩) 2 [(Q0, c0, r0), (Q1, c1, r1)] ∧ ∀ x ∈ [(Q0, c0, r0), (Q1, c1, r1)], SlV w1 x.1 x.2.1 x.2.2 := by
  have key := box1 hx
  have hxx := ((Ext.refl W).alloc _).trans hx
  refine ⟨⟨fun i x hi => ⟨_, _, rfl, fun j v hj => ?_⟩, by simp, by omega⟩, fun x hx2 => ?_⟩
  · match j, hj with
    | 0, hj =>
      simp [Rw.cells] at hj
      subst hj
      match i, hi with
      | 0, hi => simp at hi; subst hi; exact key 0 _ rfl
      | 1, hi => simp at hi; subst hi; exact key 1 _ rfl
      | i + 2, hi => simp at hi
    | j + 1, hj => simp [Rw.cells] at hj
  · simp at hx2
    rcases hx2 with rfl | rfl
    · exact h0.ext hxx
    · exact h1.ext hxx
set_option maxHeartbeats 16000000 in
theorem picks_law (P Q R : Option Addr) (cap cap2 cap3 : Nat) (l : List It) (r : List Vl) (names : List ByteArray) (v : Vl) (w : World) (aw : ∀ W, Ext w W → Calls Tryd.prog 11 #[] W fun e w' => e = .returned (.bool true) ∧ Ext W w')
    (h : SlT w P cap l) (h2 : SlV w Q cap2 r) (h3 : SlS w R cap3 names) (o2 : OkL r) (ov : v.2.2.size ≤ 140737488355328) :
    Calls Tryd.prog 6 #[.slice P l.length cap, .slice Q r.length cap2, .slice R names.length cap3, v.v] w fun e w' => e = .returned (.bool true) ∧ Ext w w' := by
  have hlen := h.len
  have hlen2 := h2.len
  have hlen3 := h3.len
  obtain ⟨vk, vn, vs⟩ := v
  show Calls _ _ #[_, _, _, .agg #[.int .i64 vk, .int .i64 vn, .string vs]] _ _
  have hI := fun W hx => litems_any P cap l W (h.ext hx)
  have hN := fun W hx => lnames_any R cap3 names W (h3.ext hx)
  have hR := fun (t1 t2 t3 : TypeId) =>
    show Calls Tryd.prog 10 #[.slice (some ⟨w.heap.size + 1 + 1, 0, none⟩) 2 2] (((w.alloc (.cells #[.int .i64 vk, .int .i64 vn, .string vs] t1)).alloc (.cells #[.int .i64 vk, .int .i64 vn, .string vs] t2)).alloc (.cells #[.slice Q r.length cap2, .slice (some ⟨w.heap.size + 1, 0, none⟩) 1 1] t3)) (fun e w' => (∃ b : Bool, e = .returned (.bool b)) ∧ w' = (((w.alloc (.cells #[.int .i64 vk, .int .i64 vn, .string vs] t1)).alloc (.cells #[.int .i64 vk, .int .i64 vn, .string vs] t2)).alloc (.cells #[.slice Q r.length cap2, .slice (some ⟨w.heap.size + 1, 0, none⟩) 1 1] t3))) from by
      have hp := rw_pair (W := (w.alloc (.cells #[.int .i64 vk, .int .i64 vn, .string vs] t1)).alloc (.cells #[.int .i64 vk, .int .i64 vn, .string vs] t2)) (h2.ext (((Ext.refl w).alloc _).alloc _)) (slV_one (w := w.alloc (.cells #[.int .i64 vk, .int .i64 vn, .string vs] t1)) (v := (vk, vn, vs)) (Ext.refl _)) (t := t3) (Ext.refl _)
      have := lrows_any _ 2 _ _ hp.1 hp.2
      simp only [World.size_alloc] at this
      exact this
  have hb0 := fun t => (Ext.refl w).alloc (.cells #[.int .i64 vk, .int .i64 vn, .string vs] t)
  go_enter Tryd.func6, Tryd.ntmps6
  go_wp2_with (first
    | (go_at_call 9; refine (hI _ (hb0 _)).mono ?_; rintro e w1 ⟨⟨b1, rfl⟩, rfl⟩; cases b1)
    | (go_at_call 10; refine (hR _ _ _).mono ?_; rintro e w1 ⟨⟨b2, rfl⟩, rfl⟩; cases b2)
    | (go_at_call 30; refine (hN _ (((hb0 _).alloc _).alloc _)).mono ?_; rintro e w1 ⟨⟨b3, rfl, hn20⟩, rfl⟩; cases b3)
    | (go_at_call 11; refine (aw _ (by first | exact (hb0 _) | exact (((hb0 _).alloc _).alloc _))).mono ?_; rintro e w7 ⟨rfl, hx7⟩))
  all_goals first
    | (go_ret; exact ⟨rfl, (hb0 _).trans hx7⟩)
    | (go_ret; exact ⟨rfl, (((hb0 _).alloc _).alloc _).trans hx7⟩)
    | skip
  replace hn20 : names.length ≤ 20 := by first | exact hn20 | exact hn20 rfl | (simpa using hn20)
  have yc : Ext (w.alloc (.cells #[.int .i64 vk, .int .i64 vn, .string vs] 29)) ((((w.alloc (.cells #[.int .i64 vk, .int .i64 vn, .string vs] 29))).alloc (.cells #[.int .i64 vk, .int .i64 vn, .string vs] 29)).alloc (.cells #[.slice Q r.length cap2, .slice (some ⟨w.heap.size + 1, 0, none⟩) 1 1] 23)) := ((Ext.refl _).alloc _).alloc _
  have hw0 : Ext w (w.alloc (.cells #[.int .i64 vk, .int .i64 vn, .string vs] 29)) := hb0 _
  clear hb0 hR hI hN
  have p1 := fun W hx => pick_any P Q R cap cap2 cap3 l r names W (h.ext hx) (h2.ext hx) (h3.ext hx) hn20
  have p2 := fun W hx => rpick_any P Q R cap cap2 cap3 l r names W (h.ext hx) (h2.ext hx) (h3.ext hx) hn20
  have ok1 := okL_pick (l := l) o2 names
  generalize pickF l r names = pf at *
  obtain ⟨pl, pe⟩ := pf
  simp only at p1 p2 ok1
  go_wp2_with (first
    | (go_at_call 34; refine (p1 _ (hw0.trans yc)).mono ?_; rintro e w2 ⟨⟨u, rfl, Q1, d1, rfl, s1⟩, x2⟩; replace yc := yc.trans x2)
    | (go_at_call 37; refine (p2 _ (hw0.trans yc)).mono ?_; rintro e w3 ⟨⟨u, rfl, Q2, d2, rfl, s2⟩, x3⟩; replace yc := yc.trans x3; replace s1 := s1.ext x3)
    | (go_at_call 29; refine (rsame_yes _ _ _ _ _ _ s1 s2 ok1).mono ?_; rintro e w4 ⟨rfl, x4⟩; replace yc := yc.trans x4))
  clear p1 p2 s1 s2 x2 x3 x4
  go_loopw [13, 14, 15, 16, 17, 18, 19, 20, 21] (fun i _ _ _ _ _ _ _ _ wr => ∃ k : Nat, k ≤ names.length ∧ i = .int .i64 k ∧ Ext (w.alloc (.cells #[.int .i64 vk, .int .i64 vn, .string vs] 29)) wr) (fun i _ _ _ _ _ _ _ _ _ => names.length - (intOf i).toNat)
  case atStart => exact ⟨0, by omega, rfl, yc⟩
  case round =>
    clear yc
    obtain ⟨k, hk, rfl, yc⟩ := hrel
    by_cases hlt : k < names.length
    · obtain ⟨b, off, hP, g0⟩ := nameAt' h3 k hlt
      subst hP
      have g0 := (hw0.trans yc).cell g0
      obtain ⟨z0, z1, z2⟩ := box3 yc
      have c1 : (k : Int) < names.length := by omega
      have d1 : IntKind.i64.wrap ((k : Int) + 1) = (k : Int) + 1 := IntWalk.i64_in _ ⟨by omega, by omega⟩
      generalize nthS names k = n at *
      have f1 := fun W hx => find_any P cap l n W (h.ext hx)
      have f2 := fun W hx => rfind_any P cap l n W (h.ext hx)
      generalize findF l n = ff at *
      have u1 := fun W hx => put_any P Q cap cap2 l r n (vk, vn, vs) W (h.ext hx) (h2.ext hx)
      have u2 := fun W hx => rput_any P Q cap cap2 l r n (vk, vn, vs) W (h.ext hx) (h2.ext hx)
      unfold Vl.v at u1 u2
      simp only at u1 u2
      rcases putF_cases l r n (vk, vn, vs) with ⟨e9, he9, hpe⟩ | ⟨q, hq, hpe, hfe, hpk⟩
      · simp only [hpe] at u1 u2
        clear hpe
        go_wp2_with (first
          | (go_at_call 38; refine (f1 _ (hw0.trans yc)).mono ?_; rintro e w2 ⟨rfl, x2⟩; replace yc := yc.trans x2; replace g0 := x2.cell g0; replace z0 := x2.cell z0; replace z1 := x2.cell z1; replace z2 := x2.cell z2)
          | (go_at_call 39; refine (f2 _ (hw0.trans yc)).mono ?_; rintro e w3 ⟨rfl, x3⟩; replace yc := yc.trans x3; replace g0 := x3.cell g0; replace z0 := x3.cell z0; replace z1 := x3.cell z1; replace z2 := x3.cell z2))
        have yd := (hw0.trans yc).drew
        go_region_held3 (fun w' => w'.cell? ⟨b, off + k, none⟩ = some (.string n) ∧ w'.cell? ⟨w.heap.size, 0, none⟩ = some (.int .i64 vk) ∧ w'.cell? ⟨w.heap.size, 1, none⟩ = some (.int .i64 vn) ∧ w'.cell? ⟨w.heap.size, 2, none⟩ = some (.string vs)) (go_keep)
          (first
            | (go_at_call 40; refine (u1 _ yd).mono ?_; rintro e w5 ⟨⟨u5, rfl, Q5, d5, rfl, s5⟩, x5⟩; have y0 := x5.cell g0; have y1 := x5.cell z0; have y2 := x5.cell z1; have y3 := x5.cell z2)
            | fail)
        replace g0 := y0
        replace z0 := y1
        replace z1 := y2
        replace z2 := y3
        replace yc := yc.drew.trans x5
        
        clear y0 y1 y2 y3 yd
        go_wp2
        have yd := (hw0.trans yc).drew
        go_region_held3 (fun w' => w'.cell? ⟨b, off + k, none⟩ = some (.string n) ∧ w'.cell? ⟨w.heap.size, 0, none⟩ = some (.int .i64 vk) ∧ w'.cell? ⟨w.heap.size, 1, none⟩ = some (.int .i64 vn) ∧ w'.cell? ⟨w.heap.size, 2, none⟩ = some (.string vs)) (go_keep)
          (first
            | (go_at_call 41; refine (u2 _ yd).mono ?_; rintro e w6 ⟨⟨u6, rfl, Q6, d6, rfl, s6⟩, x6⟩; have y0 := x6.cell g0; have y1 := x6.cell z0; have y2 := x6.cell z1; have y3 := x6.cell z2)
            | fail)
        replace g0 := y0
        replace z0 := y1
        replace z1 := y2
        replace z2 := y3
        replace yc := yc.drew.trans x6
        replace s5 := s5.ext ((Ext.refl _).drew.trans x6)
        clear y0 y1 y2 y3 yd
        go_wp2_with (first
          | (go_at_call 29; refine (rsame_yes _ _ _ _ _ _ s5 s6 (fun x hx => by cases hx)).mono ?_; rintro e w7 ⟨rfl, x7⟩; replace yc := yc.trans x7))
        go_roundw
        case rel => exact ⟨k + 1, by omega, by go_num, yc⟩
        case measure => simp [intOf]; omega
      · simp only [hpe] at u1 u2
        go_wp2_with (first
          | (go_at_call 38; refine (f1 _ (hw0.trans yc)).mono ?_; rintro e w2 ⟨rfl, x2⟩; replace yc := yc.trans x2; replace g0 := x2.cell g0; replace z0 := x2.cell z0; replace z1 := x2.cell z1; replace z2 := x2.cell z2)
          | (go_at_call 39; refine (f2 _ (hw0.trans yc)).mono ?_; rintro e w3 ⟨rfl, x3⟩; replace yc := yc.trans x3; replace g0 := x3.cell g0; replace z0 := x3.cell z0; replace z1 := x3.cell z1; replace z2 := x3.cell z2))
        have yd := (hw0.trans yc).drew
        go_region_held3 (fun w' => w'.cell? ⟨b, off + k, none⟩ = some (.string n) ∧ w'.cell? ⟨w.heap.size, 0, none⟩ = some (.int .i64 vk) ∧ w'.cell? ⟨w.heap.size, 1, none⟩ = some (.int .i64 vn) ∧ w'.cell? ⟨w.heap.size, 2, none⟩ = some (.string vs)) (go_keep)
          (first
            | (go_at_call 40; refine (u1 _ yd).mono ?_; rintro e w5 ⟨⟨u5, rfl, Q5, d5, rfl, s5⟩, x5⟩; have y0 := x5.cell g0; have y1 := x5.cell z0; have y2 := x5.cell z1; have y3 := x5.cell z2)
            | fail)
        replace g0 := y0
        replace z0 := y1
        replace z1 := y2
        replace z2 := y3
        replace yc := yc.drew.trans x5
        
        clear y0 y1 y2 y3 yd
        go_wp2
        have yd := (hw0.trans yc).drew
        go_region_held3 (fun w' => w'.cell? ⟨b, off + k, none⟩ = some (.string n) ∧ w'.cell? ⟨w.heap.size, 0, none⟩ = some (.int .i64 vk) ∧ w'.cell? ⟨w.heap.size, 1, none⟩ = some (.int .i64 vn) ∧ w'.cell? ⟨w.heap.size, 2, none⟩ = some (.string vs)) (go_keep)
          (first
            | (go_at_call 41; refine (u2 _ yd).mono ?_; rintro e w6 ⟨⟨u6, rfl, Q6, d6, rfl, s6⟩, x6⟩; have y0 := x6.cell g0; have y1 := x6.cell z0; have y2 := x6.cell z1; have y3 := x6.cell z2)
            | fail)
        replace g0 := y0
        replace z0 := y1
        replace z1 := y2
        replace z2 := y3
        replace yc := yc.drew.trans x6
        replace s5 := s5.ext ((Ext.refl _).drew.trans x6)
        clear y0 y1 y2 y3 yd
        have ok5 : OkL (r.set q (vk, vn, vs)) := okL_set o2 ov q
        have hpk' := fun W hx (R9 : Option Addr) (c9 : Nat) h9 Q9 e9 (s9 : SlV W Q9 e9 (r.set q (vk, vn, vs))) => pick_any P Q9 R9 cap e9 c9 l (r.set q (vk, vn, vs)) [n] W (h.ext hx) s9 h9 (by simp)
        have hfe' := fun W hx Q9 e9 (s9 : SlV W Q9 e9 (r.set q (vk, vn, vs))) => fits_any P Q9 cap e9 l (r.set q (vk, vn, vs)) W (h.ext hx) s9
        simp only [hpk] at hpk'
        simp only [hfe] at hfe'
        clear hpk hfe hpe u1 u2
        have HRL := Lib.hid (show (r.set q (vk, vn, vs)).length = r.length from by simp)
        generalize r.set q (vk, vn, vs) = rr at *
        simp only [HRL.out] at hpk' hfe'
        go_wp2_with (first
          | (go_at_call 29; have hS := rsame_yes _ _ _ _ _ _ s5 s6 ok5; rw [HRL.out] at hS; refine hS.mono ?_; rintro e w7 ⟨rfl, x7⟩; replace yc := yc.trans x7; replace s5 := s5.ext x7; replace g0 := x7.cell g0; replace z0 := x7.cell z0; replace z1 := x7.cell z1; replace z2 := x7.cell z2)
          | (go_at_call 34; refine (hpk' _ ((hw0.trans yc).alloc _) _ _ (slS_one _ _ _) _ _ (s5.ext ((Ext.refl _).alloc _))).mono ?_; rintro e w8 ⟨⟨u8, rfl, Q8, d8, rfl, s8⟩, x8⟩; replace yc := (yc.alloc _).trans x8; replace s5 := s5.ext (((Ext.refl _).alloc _).trans x8); obtain ⟨z0, z1, z2⟩ := box3 yc))
        obtain ⟨b8, off8, hQ8, v0, v1, v2⟩ := s8.valAt 0 (by simp)
        simp only [Nat.zero_mul, Nat.add_zero] at v0 v1 v2
        rw [show nthV [(vk, vn, vs)] 0 = (vk, vn, vs) from rfl] at v0 v1 v2
        subst hQ8
        have yd := (hw0.trans yc).drew
        replace s5 := s5.ext ((Ext.refl _).drew)
        go_region_held3 (fun w' => w'.cell? ⟨b8, off8, none⟩ = some (.int .i64 vk) ∧ w'.cell? ⟨b8, off8 + 1, none⟩ = some (.int .i64 vn) ∧ w'.cell? ⟨b8, off8 + 2, none⟩ = some (.string vs) ∧ w'.cell? ⟨w.heap.size, 0, none⟩ = some (.int .i64 vk) ∧ w'.cell? ⟨w.heap.size, 1, none⟩ = some (.int .i64 vn) ∧ w'.cell? ⟨w.heap.size, 2, none⟩ = some (.string vs)) (go_keep)
          (first
            | (go_at_call 22; refine (hfe' _ yd _ _ s5).mono ?_; rintro e w9 ⟨rfl, x9⟩; have y0 := x9.cell v0; have y1 := x9.cell v1; have y2 := x9.cell v2; have y3 := x9.cell z0; have y4 := x9.cell z1; have y5 := x9.cell z2)
            | fail)
        replace yc := yc.drew.trans x9
        go_wp2
        go_roundw
        case rel => exact ⟨k + 1, by omega, by go_num, yc⟩
        case measure => simp [intOf]; omega
    · obtain rfl : k = names.length := by omega
      have d2 := fun W hx => default_any P cap l W (h.ext hx)
      have d3 := fun W hx => rdefault_any P cap l W (h.ext hx)
      have f2 := fun (hv : itemsB l = true) W hx Q9 e9 (s9 : SlV W Q9 e9 (l.map defV)) => fits_any P Q9 cap e9 l (l.map defV) W (h.ext hx) s9
      have od := okL_def l
      cases hv : itemsB l with
      | false =>
        have hd : defF l = ([], 1) := by simp [defF, hv]
        simp only [hd] at d2 d3 od
        clear hd hv f2
        go_wp2_with (first
          | (go_at_call 42; refine (d2 _ (hw0.trans yc)).mono ?_; rintro e w2 ⟨⟨u2, rfl, Q2, e2, rfl, s2⟩, x2⟩; replace yc := yc.trans x2)
          | (go_at_call 43; refine (d3 _ (hw0.trans yc)).mono ?_; rintro e w3 ⟨⟨u3, rfl, Q3, e3, rfl, s3⟩, x3⟩; replace yc := yc.trans x3; replace s2 := s2.ext x3)
          | (go_at_call 29; refine (rsame_yes _ _ _ _ _ _ s2 s3 od).mono ?_; rintro e w4 ⟨rfl, x4⟩; replace yc := yc.trans x4; replace s2 := s2.ext x4)
          | (go_at_call 11; refine (aw _ (hw0.trans yc)).mono ?_; rintro e w7 ⟨rfl, hx7⟩))
        go_ret
        exact ⟨rfl, (hw0.trans yc).trans hx7⟩
      | true =>
        have hd : defF l = (l.map defV, 0) := by simp [defF, hv]
        have hfd := fits_def hv
        have f3 := f2 hv
        simp only [hfd] at f3
        simp only [hd] at d2 d3 od
        clear hd hv f2 hfd
        generalize l.map defV = ll at *
        go_wp2_with (first
          | (go_at_call 42; refine (d2 _ (hw0.trans yc)).mono ?_; rintro e w2 ⟨⟨u2, rfl, Q2, e2, rfl, s2⟩, x2⟩; replace yc := yc.trans x2)
          | (go_at_call 43; refine (d3 _ (hw0.trans yc)).mono ?_; rintro e w3 ⟨⟨u3, rfl, Q3, e3, rfl, s3⟩, x3⟩; replace yc := yc.trans x3; replace s2 := s2.ext x3)
          | (go_at_call 29; refine (rsame_yes _ _ _ _ _ _ s2 s3 od).mono ?_; rintro e w4 ⟨rfl, x4⟩; replace yc := yc.trans x4; replace s2 := s2.ext x4)
          | (go_at_call 22; have hS := f3 _ (hw0.trans yc) _ _ s2; refine hS.mono ?_; rintro e w5 ⟨rfl, x5⟩; replace yc := yc.trans x5)
          | (go_at_call 11; refine (aw _ (hw0.trans yc)).mono ?_; rintro e w7 ⟨rfl, hx7⟩))
        go_ret
        exact ⟨rfl, (hw0.trans yc).trans hx7⟩
end
section
open Go.RowKit
set_option linter.unusedVariables false
set_option linter.unusedSimpArgs false
set_option linter.unusedSectionVars false
set_option maxRecDepth 20000

def uniqB (l : List It) : Bool := (List.range l.length).all fun i => decide (idxF l (nthT l i).1 = i)
theorem uniqB_yes {l : List It} (h : ∀ i : Nat, i < l.length → idxF l (nthT l i).1 = i) : uniqB l = true := by
  unfold uniqB
  simpa using h
theorem uniqB_no {l : List It} {k : Nat} (hk : k < l.length) (h : ¬ idxF l (nthT l k).1 = k) : uniqB l = false := by
  unfold uniqB
  rw [List.all_eq_false]
  exact ⟨k, List.mem_range.2 hk, by simpa using h⟩
theorem uniqB_at {l : List It} (h : uniqB l = true) (i : Nat) (hi : i < l.length) : idxF l (nthT l i).1 = i := by
  unfold uniqB at h
  rw [List.all_eq_true] at h
  exact of_decide_eq_true (h i (List.mem_range.2 hi))
theorem pigeon : ∀ (n : Nat) (xs : List Nat), xs.Nodup → (∀ x ∈ xs, x < n) → xs.length ≤ n
  | 0, xs, _, h => by
    cases xs with
    | nil => simp
    | cons x xs => exact absurd (h x (by simp)) (by omega)
  | n + 1, xs, hd, h => by
    by_cases hm : n ∈ xs
    · have h1 := pigeon n (xs.erase n) (hd.erase n) (fun x hx => by
        rw [hd.mem_erase_iff] at hx
        have := h x hx.2
        have := hx.1
        omega)
      rw [List.length_erase_of_mem hm] at h1
      omega
    · have h1 := pigeon n xs hd (fun x hx => by
        have := h x hx
        by_cases hxn : x = n
        · subst hxn; exact absurd hx hm
        · omega)
      omega
theorem idxF_name {l : List It} {s : ByteArray} (h : 0 ≤ idxF l s) : (nthT l (idxF l s).toNat).1 = s := by
  induction l with
  | nil => simp [idxF] at h
  | cons x l ih =>
    simp only [idxF] at h ⊢
    by_cases hx : x.1 = s
    · rw [if_pos hx]; exact hx
    · rw [if_neg hx] at h ⊢
      split at h
      · omega
      · rename_i h2
        rw [if_neg h2]
        have h3 : 0 ≤ idxF l s := by omega
        have := ih h3
        rw [show (idxF l s + 1).toNat = (idxF l s).toNat + 1 from by omega]
        exact this
def narrowed (l : List It) (names : List ByteArray) : List It := names.map fun n => nthT l (idxF l n).toNat
def narrowF (l : List It) (names : List ByteArray) : List It × Int :=
  if itemsB l = true then (if ∀ n ∈ names, 0 ≤ idxF l n then (if uniqB (narrowed l names) = true then (if names.length = 0 then ([], 11) else (narrowed l names, 0)) else ([], 6)) else ([], 5)) else ([], 1)
theorem narrowed_take {l : List It} {names : List ByteArray} {k : Nat} (hk : k < names.length) : narrowed l (names.take (k + 1)) = narrowed l (names.take k) ++ [nthT l (idxF l (nthS names k)).toNat] := by
  unfold narrowed
  rw [List.take_add_one, nthS_some hk]
  simp
theorem narrowed_len (l : List It) (names : List ByteArray) : (narrowed l names).length = names.length := by simp [narrowed]
theorem narrowed_at {l : List It} {names : List ByteArray} {k : Nat} (hk : k < names.length) : nthT (narrowed l names) k = nthT l (idxF l (nthS names k)).toNat := by
  unfold narrowed
  unfold nthT nthS
  simp [hk]
theorem items_good {l : List It} (h : itemsB l = true) (i : Nat) (hi : i < l.length) : goodT l i := by
  unfold itemsB knownB at h
  rw [Bool.and_eq_true, Bool.and_eq_true, List.all_eq_true] at h
  exact of_decide_eq_true (h.2.1 i (List.mem_range.2 hi))
theorem items_of {l : List It} (h0 : 0 < l.length) (h8 : l.length ≤ 8) (hv : ∀ i, i < l.length → itemB (nthT l i) = true) : itemsB l = uniqB l := by
  cases hu : uniqB l with
  | true =>
    unfold itemsB
    rw [knownB_yes (fun i hi => ⟨hv i hi, uniqB_at hu i hi⟩), decide_eq_true h0, decide_eq_true h8]
    rfl
  | false =>
    unfold uniqB at hu
    rw [List.all_eq_false] at hu
    obtain ⟨i, hi, hn⟩ := hu
    unfold itemsB
    rw [knownB_no (List.mem_range.1 hi) (fun h => hn (decide_eq_true h.2)), Bool.and_false]
theorem narrowed_items {l : List It} {names : List ByteArray} (hl : itemsB l = true) (ha : ∀ n ∈ names, 0 ≤ idxF l n) (h0 : 0 < names.length) : itemsB (narrowed l names) = uniqB (narrowed l names) := by
  have hv : ∀ i, i < (narrowed l names).length → itemB (nthT (narrowed l names) i) = true := fun i hi => by
    rw [narrowed_len] at hi
    rw [narrowed_at hi]
    obtain ⟨q, e, hq⟩ := idxF_lt (ha _ (nthS_mem hi))
    rw [e]
    exact (items_good hl q hq).1
  by_cases h8 : (narrowed l names).length ≤ 8
  · exact items_of (by rw [narrowed_len]; exact h0) h8 hv
  · have hn : itemsB (narrowed l names) = false := by
      unfold itemsB knownB
      rw [show decide ((narrowed l names).length ≤ 8) = false from decide_eq_false h8, Bool.and_false, Bool.and_false]
    rw [hn]
    symm
    cases hu : uniqB (narrowed l names) with
    | false => rfl
    | true =>
      exfalso
      apply h8
      have hl8 := items_le8 hl
      have hnd : names.Nodup := by
        rw [List.Nodup, List.pairwise_iff_getElem]
        intro i j hi hj hij e
        have h1 := uniqB_at hu j (by rw [narrowed_len]; exact hj)
        rw [narrowed_at hj, idxF_name (ha _ (nthS_mem hj))] at h1
        have h2 := uniqB_at hu i (by rw [narrowed_len]; exact hi)
        rw [narrowed_at hi, idxF_name (ha _ (nthS_mem hi))] at h2
        have e2 : nthS names i = nthS names j := by
          unfold nthS
          simp only [List.getD_eq_getElem?_getD, List.getElem?_eq_getElem hi, List.getElem?_eq_getElem hj]
          exact e
        rw [e2, h1] at h2
        omega
      have hnd2 : (names.map fun n => (idxF l n).toNat).Nodup := by
        rw [List.Nodup, List.pairwise_map]
        refine List.Pairwise.imp_of_mem ?_ hnd
        intro a b ha1 hb1 hab e
        apply hab
        rw [← idxF_name (ha a ha1), ← idxF_name (ha b hb1), e]
      have := pigeon l.length _ hnd2 (fun x hx => by
        obtain ⟨n, hn, rfl⟩ := List.mem_map.1 hx
        have := (idxF_ge l n).2
        have := ha n hn
        omega)
      rw [List.length_map] at this
      rw [narrowed_len]
      omega
/-- what Narrow gives is fitted by what Pick gives -/
theorem narrow_fits {l : List It} {r : List Vl} {names : List ByteArray} (he : (narrowF l names).2 = 0) (hf : fitsB l r = true) :
    narrowF l names = (narrowed l names, 0) ∧ pickF l r names = (picked l r names, 0) ∧ fitsB (narrowed l names) (picked l r names) = true := by
  have hi := (fits_len hf).2
  unfold narrowF at he ⊢
  rw [if_pos hi] at he ⊢
  by_cases ha : ∀ n ∈ names, 0 ≤ idxF l n
  · rw [if_pos ha] at he ⊢
    by_cases hu : uniqB (narrowed l names) = true
    · rw [if_pos hu] at he ⊢
      by_cases h0 : names.length = 0
      · rw [if_pos h0] at he
        simp at he
      · rw [if_neg h0]
        have hii := narrowed_items hi ha (by omega)
        rw [hu] at hii
        have h8 := items_le8 hii
        rw [narrowed_len] at h8
        refine ⟨rfl, ?_, ?_⟩
        · unfold pickF
          rw [if_pos hf, if_pos ha, if_pos h8]
        · rw [fitsB_iff]
          refine ⟨hii, by rw [narrowed_len, picked_len], fun i hi2 => ?_⟩
          rw [narrowed_len] at hi2
          rw [narrowed_at hi2]
          obtain ⟨q, e, hq⟩ := idxF_lt (ha _ (nthS_mem hi2))
          have : nthV (picked l r names) i = nthV r (idxF l (nthS names i)).toNat := by
            unfold picked nthV nthS
            simp [hi2]
          rw [this, e]
          exact (fitsB_iff.1 hf).2.2 q hq
    · rw [if_neg hu] at he
      simp at he
  · rw [if_neg ha] at he
    simp at he
def renK (l : List It) (names : List ByteArray) : Nat → List It
  | 0 => l
  | k + 1 => (renK l names k).set k (nthS names k, (nthT l k).2)
theorem renK_len (l : List It) (names : List ByteArray) : ∀ k, (renK l names k).length = l.length
  | 0 => rfl
  | k + 1 => by simp [renK, renK_len l names k]
theorem renK_at (l : List It) (names : List ByteArray) (i : Nat) (hi : i < l.length) : ∀ k, nthT (renK l names k) i = if i < k then (nthS names i, (nthT l i).2) else nthT l i
  | 0 => by simp [renK]
  | k + 1 => by
    have ih := renK_at l names i hi k
    simp only [renK]
    unfold nthT at ih ⊢
    rw [List.getD_eq_getElem?_getD, List.getElem?_set]
    by_cases hik : k = i
    · subst hik
      rw [if_pos rfl, if_pos (by rw [renK_len]; exact hi), if_pos (by omega)]
      rfl
    · rw [if_neg hik, ← List.getD_eq_getElem?_getD, ih]
      by_cases h1 : i < k
      · rw [if_pos h1, if_pos (by omega)]
      · rw [if_neg h1, if_neg (by omega)]
def renameF (l : List It) (names : List ByteArray) : List It × Int :=
  if itemsB l = true then (if names.length = l.length then (if ∀ n ∈ names, nameF n = true then (if uniqB (renK l names l.length) = true then (renK l names l.length, 0) else ([], 6)) else ([], 1)) else ([], 11)) else ([], 1)
theorem renamed_items {l : List It} {names : List ByteArray} (hl : itemsB l = true) (hn : names.length = l.length) (ha : ∀ n ∈ names, nameF n = true) : itemsB (renK l names l.length) = uniqB (renK l names l.length) := by
  refine items_of (by rw [renK_len]; exact items_pos hl) (by rw [renK_len]; exact items_le8 hl) fun i hi => ?_
  rw [renK_len] at hi
  rw [renK_at l names i hi, if_pos hi]
  have h1 := (items_good hl i hi).1
  unfold itemB at h1 ⊢
  rw [Bool.and_eq_true] at h1 ⊢
  exact ⟨ha _ (nthS_mem (by omega)), h1.2⟩
end
end Go.Proofs.YtepgpejdnlejnaaDoor
