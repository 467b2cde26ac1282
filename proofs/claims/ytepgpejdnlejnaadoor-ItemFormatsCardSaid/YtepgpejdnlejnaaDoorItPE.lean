/- The law of ItemPicks, but for its last word. -/
import Derived.Test.YtepgpejdnlejnaaDoorItPD
import Derived.Test.YtepgpejdnlejnaaDoorQ17
import Derived.Test.YtepgpejdnlejnaaDoorQ07
namespace Go.Proofs.YtepgpejdnlejnaaDoor
open Go.RowKit
set_option linter.unusedVariables false
set_option linter.unusedSimpArgs false
set_option linter.unusedSectionVars false
set_option maxRecDepth 20000
attribute [local go_sem] Oper.semAt_some

theorem nthV_set {r : List Vl} {q i : Nat} {v : Vl} (hq : q < r.length) : nthV (r.set q v) i = if i = q then v else nthV r i := by
  unfold nthV
  rw [List.getD_eq_getElem?_getD, List.getD_eq_getElem?_getD, List.getElem?_set]
  by_cases h : q = i
  · subst h; simp [hq]
  · rw [if_neg h, if_neg (fun e => h e.symm)]
theorem fitsB_iff {l : List It} {r : List Vl} : fitsB l r = true ↔ itemsB l = true ∧ l.length = r.length ∧ ∀ i, i < l.length → fitB (nthT l i) (nthV r i) = true := by
  unfold fitsB
  simp only [Bool.and_eq_true, decide_eq_true_eq, List.all_eq_true, List.mem_range]
theorem fitsB_set {l : List It} {r : List Vl} {q : Nat} {v : Vl} (hf : fitsB l r = true) (hq : q < l.length) (hv : fitB (nthT l q) v = true) : fitsB l (r.set q v) = true := by
  rw [fitsB_iff] at hf ⊢
  refine ⟨hf.1, by rw [List.length_set]; exact hf.2.1, fun i hi => ?_⟩
  rw [nthV_set (by omega)]
  split
  · rename_i h; subst h; exact hv
  · exact hf.2.2 i hi
theorem pickF_one {l : List It} {r : List Vl} {n : ByteArray} (hf : fitsB l r = true) (hn : 0 ≤ idxF l n) : pickF l r [n] = ([nthV r (idxF l n).toNat], 0) := by
  unfold pickF
  rw [if_pos hf, if_pos (by simpa using hn), if_pos (by simp)]
  rfl
theorem putF_cases (l : List It) (r : List Vl) (n : ByteArray) (v : Vl) : (∃ e, e ≠ 0 ∧ putF l r n v = ([], e)) ∨ (∃ q, q < r.length ∧ putF l r n v = (r.set q v, 0) ∧ fitsB l (r.set q v) = true ∧ pickF l (r.set q v) [n] = ([v], 0)) := by
  unfold putF
  by_cases h1 : fitsB l r = true
  · rw [if_pos h1]
    by_cases h2 : 0 ≤ idxF l n
    · rw [if_pos h2]
      by_cases h3 : valB v = true
      · rw [if_pos h3]
        by_cases h4 : fitB (nthT l (idxF l n).toNat) v = true
        · rw [if_pos h4]
          obtain ⟨q, e, hq⟩ := idxF_lt h2
          have h5 := (fits_len h1).1
          rw [e] at h4 ⊢
          have h6 : fitsB l (r.set q v) = true := fitsB_set h1 hq h4
          refine .inr ⟨q, by omega, rfl, h6, ?_⟩
          rw [pickF_one h6 h2, e]
          rw [show (q : Int).toNat = q from by omega, nthV_set (by omega), if_pos rfl]
        · rw [if_neg h4]; exact .inl ⟨7, by omega, rfl⟩
      · rw [if_neg h3]; exact .inl ⟨1, by omega, rfl⟩
    · rw [if_neg h2]; exact .inl ⟨5, by omega, rfl⟩
  · rw [if_neg h1]; exact .inl ⟨1, by omega, rfl⟩
theorem fit_def {x : It} (h : itemB x = true) : fitB x (defV x) = true := by
  obtain ⟨s, k, lo, hi, n⟩ := x
  unfold itemB at h
  unfold fitB valB defV withinB
  simp only [Bool.and_eq_true] at h ⊢
  by_cases hk : k = 1
  · subst hk
    simp at h ⊢
    exact ⟨⟨by omega, rfl⟩, by omega⟩
  · rw [if_neg hk] at h ⊢
    simp only [decide_eq_true_eq] at h
    obtain ⟨_, rfl, h1, h2, h3, h4⟩ := h
    refine ⟨⟨?_, ?_⟩, ?_⟩
    · exact decide_eq_true ⟨rfl, rfl, by show (0 : Nat) ≤ 40; omega⟩
    · simp
    · simp only [if_true, decide_eq_true_eq]
      show ((0 : Nat) : Int) ≤ n
      omega
theorem fits_def {l : List It} (h : itemsB l = true) : fitsB l (l.map defV) = true := by
  rw [fitsB_iff]
  refine ⟨h, by simp, fun i hi => ?_⟩
  have hg : goodT l i := by
    unfold itemsB knownB at h
    rw [Bool.and_eq_true, Bool.and_eq_true, List.all_eq_true] at h
    exact of_decide_eq_true (h.2.1 i (List.mem_range.2 hi))
  rw [show nthV (l.map defV) i = defV (nthT l i) from by
    unfold nthV nthT
    simp [hi]]
  exact fit_def hg.1
def OkL (l : List Vl) : Prop := ∀ x ∈ l, x.2.2.size ≤ 140737488355328
theorem okL_nth {r : List Vl} (h : OkL r) (i : Nat) : (nthV r i).2.2.size ≤ 140737488355328 := by
  by_cases hi : i < r.length
  · exact h _ (nthV_mem hi)
  · unfold nthV
    rw [List.getD_eq_getElem?_getD, List.getElem?_eq_none (by omega)]
    show (0 : Nat) ≤ _
    omega
theorem okL_pick {l : List It} {r : List Vl} (h : OkL r) (names : List ByteArray) : OkL (pickF l r names).1 := by
  have h0 : OkL [] := fun x hx => by cases hx
  unfold pickF
  repeat' split
  all_goals first
    | exact h0
    | (intro x hx
       obtain ⟨n, _, rfl⟩ := List.mem_map.1 hx
       exact okL_nth h _)
theorem okL_set {r : List Vl} {v : Vl} (h : OkL r) (hv : v.2.2.size ≤ 140737488355328) (q : Nat) : OkL (r.set q v) := fun x hx => by
  rcases List.mem_or_eq_of_mem_set hx with h1 | rfl
  · exact h _ h1
  · exact hv
theorem okL_def (l : List It) : OkL (defF l).1 := by
  unfold defF
  split
  · intro x hx
    obtain ⟨n, _, rfl⟩ := List.mem_map.1 hx
    show (0 : Nat) ≤ _
    omega
  · intro x hx; cases hx
/-- the list that both gave is the same -/
theorem rsame_yes (P Q : Option Addr) (c d : Nat) (l : List Vl) (w : World) (h : SlV w P c l) (h2 : SlV w Q d l) (o : OkL l) :
    Calls Tryd.prog 29 #[.slice P l.length c, .slice Q l.length d] w fun e w' => e = .returned (.bool true) ∧ Ext w w' := by
  have := rsame_any P Q c d l l w h h2 o o
  rw [(ord_rows.eq0 l l).2 rfl] at this
  exact this

theorem box3 {w W : World} {t : TypeId} {a b : Int} {c : ByteArray} (hx : Ext (w.alloc (.cells #[.int .i64 a, .int .i64 b, .string c] t)) W) : W.cell? ⟨w.heap.size, 0, none⟩ = some (.int .i64 a) ∧ W.cell? ⟨w.heap.size, 1, none⟩ = some (.int .i64 b) ∧ W.cell? ⟨w.heap.size, 2, none⟩ = some (.string c) :=
  ⟨hx.cell ((World.cell?_alloc_mark _ _ _ _ 0).trans rfl), hx.cell ((World.cell?_alloc_mark _ _ _ _ 1).trans rfl), hx.cell ((World.cell?_alloc_mark _ _ _ _ 2).trans rfl)⟩
theorem slV_one {w W : World} {t : TypeId} {v : Vl} (hx : Ext (w.alloc (.cells #[.int .i64 v.1, .int .i64 v.2.1, .string v.2.2] t)) W) : SlV W (some ⟨w.heap.size, 0, none⟩) 1 [v] :=
  (SlG.one (cs := Vl.cells) (k := 3) (fun _ => rfl) v rfl rfl).ext hx
theorem slS_one (n : ByteArray) (w : World) (t : TypeId) : SlS (w.alloc (.cells #[.string n] t)) (some ⟨w.heap.size, 0, none⟩) 1 [n] := SlG.one (cs := fun s => [.string s]) (k := 1) (fun _ => rfl) n rfl rfl
theorem rw_pair {W w1 : World} {Q0 Q1 : Option Addr} {c0 c1 : Nat} {r0 r1 : List Vl} (h0 : SlV W Q0 c0 r0) (h1 : SlV W Q1 c1 r1) {t : TypeId} (hx : Ext (W.alloc (.cells #[.slice Q0 r0.length c0, .slice Q1 r1.length c1] t)) w1) :
    SlG Rw.cells w1 (some ⟨W.heap.size, 0, none⟩) 2 [(Q0, c0, r0), (Q1, c1, r1)] ∧ ∀ x ∈ [(Q0, c0, r0), (Q1, c1, r1)], SlV w1 x.1 x.2.1 x.2.2 := by
  have key := box1 hx
  have hxx := ((Ext.refl W).alloc _).trans hx
  refine ⟨⟨fun i x hi => ⟨_, _, rfl, fun j v hj => ?_⟩, by simp, by omega⟩, fun x hx2 => ?_⟩
  · match j, hj with
    | 0, hj =>
      simp [Rw.cells] at hj
      subst hj
      match i, hi with
      | 0, hi => simp at hi; subst hi; exact key 0 _ rfl
      | 1, hi => simp at hi; subst hi; exact key 1 _ rfl
      | i + 2, hi => simp at hi
    | j + 1, hj => simp [Rw.cells] at hj
  · simp at hx2
    rcases hx2 with rfl | rfl
    · exact h0.ext hxx
    · exact h1.ext hxx
set_option maxHeartbeats 16000000 in
theorem picks_law (P Q R : Option Addr) (cap cap2 cap3 : Nat) (l : List It) (r : List Vl) (names : List ByteArray) (v : Vl) (w : World) (aw : ∀ W, Ext w W → Calls Tryd.prog 11 #[] W fun e w' => e = .returned (.bool true) ∧ Ext W w')
    (h : SlT w P cap l) (h2 : SlV w Q cap2 r) (h3 : SlS w R cap3 names) (o2 : OkL r) (ov : v.2.2.size ≤ 140737488355328) :
    Calls Tryd.prog 6 #[.slice P l.length cap, .slice Q r.length cap2, .slice R names.length cap3, v.v] w fun e w' => e = .returned (.bool true) ∧ Ext w w' := by
  have hlen := h.len
  have hlen2 := h2.len
  have hlen3 := h3.len
  obtain ⟨vk, vn, vs⟩ := v
  show Calls _ _ #[_, _, _, .agg #[.int .i64 vk, .int .i64 vn, .string vs]] _ _
  have hI := fun W hx => litems_any P cap l W (h.ext hx)
  have hN := fun W hx => lnames_any R cap3 names W (h3.ext hx)
  have hR := fun (t1 t2 t3 : TypeId) =>
    show Calls Tryd.prog 10 #[.slice (some ⟨w.heap.size + 1 + 1, 0, none⟩) 2 2] (((w.alloc (.cells #[.int .i64 vk, .int .i64 vn, .string vs] t1)).alloc (.cells #[.int .i64 vk, .int .i64 vn, .string vs] t2)).alloc (.cells #[.slice Q r.length cap2, .slice (some ⟨w.heap.size + 1, 0, none⟩) 1 1] t3)) (fun e w' => (∃ b : Bool, e = .returned (.bool b)) ∧ w' = (((w.alloc (.cells #[.int .i64 vk, .int .i64 vn, .string vs] t1)).alloc (.cells #[.int .i64 vk, .int .i64 vn, .string vs] t2)).alloc (.cells #[.slice Q r.length cap2, .slice (some ⟨w.heap.size + 1, 0, none⟩) 1 1] t3))) from by
      have hp := rw_pair (W := (w.alloc (.cells #[.int .i64 vk, .int .i64 vn, .string vs] t1)).alloc (.cells #[.int .i64 vk, .int .i64 vn, .string vs] t2)) (h2.ext (((Ext.refl w).alloc _).alloc _)) (slV_one (w := w.alloc (.cells #[.int .i64 vk, .int .i64 vn, .string vs] t1)) (v := (vk, vn, vs)) (Ext.refl _)) (t := t3) (Ext.refl _)
      have := lrows_any _ 2 _ _ hp.1 hp.2
      simp only [World.size_alloc] at this
      exact this
  have hb0 := fun t => (Ext.refl w).alloc (.cells #[.int .i64 vk, .int .i64 vn, .string vs] t)
  go_enter Tryd.func6, Tryd.ntmps6
  go_wp2_with (first
    | (go_at_call 9; refine (hI _ (hb0 _)).mono ?_; rintro e w1 ⟨⟨b1, rfl⟩, rfl⟩; cases b1)
    | (go_at_call 10; refine (hR _ _ _).mono ?_; rintro e w1 ⟨⟨b2, rfl⟩, rfl⟩; cases b2)
    | (go_at_call 30; refine (hN _ (((hb0 _).alloc _).alloc _)).mono ?_; rintro e w1 ⟨⟨b3, rfl, hn20⟩, rfl⟩; cases b3)
    | (go_at_call 11; refine (aw _ (by first | exact (hb0 _) | exact (((hb0 _).alloc _).alloc _))).mono ?_; rintro e w7 ⟨rfl, hx7⟩))
  all_goals first
    | (go_ret; exact ⟨rfl, (hb0 _).trans hx7⟩)
    | (go_ret; exact ⟨rfl, (((hb0 _).alloc _).alloc _).trans hx7⟩)
    | skip
  replace hn20 : names.length ≤ 20 := by first | exact hn20 | exact hn20 rfl | (simpa using hn20)
  have yc : Ext (w.alloc (.cells #[.int .i64 vk, .int .i64 vn, .string vs] 29)) ((((w.alloc (.cells #[.int .i64 vk, .int .i64 vn, .string vs] 29))).alloc (.cells #[.int .i64 vk, .int .i64 vn, .string vs] 29)).alloc (.cells #[.slice Q r.length cap2, .slice (some ⟨w.heap.size + 1, 0, none⟩) 1 1] 23)) := ((Ext.refl _).alloc _).alloc _
  have hw0 : Ext w (w.alloc (.cells #[.int .i64 vk, .int .i64 vn, .string vs] 29)) := hb0 _
  clear hb0 hR hI hN
  have p1 := fun W hx => pick_any P Q R cap cap2 cap3 l r names W (h.ext hx) (h2.ext hx) (h3.ext hx) hn20
  have p2 := fun W hx => rpick_any P Q R cap cap2 cap3 l r names W (h.ext hx) (h2.ext hx) (h3.ext hx) hn20
  have ok1 := okL_pick (l := l) o2 names
  generalize pickF l r names = pf at *
  obtain ⟨pl, pe⟩ := pf
  simp only at p1 p2 ok1
  go_wp2_with (first
    | (go_at_call 34; refine (p1 _ (hw0.trans yc)).mono ?_; rintro e w2 ⟨⟨u, rfl, Q1, d1, rfl, s1⟩, x2⟩; replace yc := yc.trans x2)
    | (go_at_call 37; refine (p2 _ (hw0.trans yc)).mono ?_; rintro e w3 ⟨⟨u, rfl, Q2, d2, rfl, s2⟩, x3⟩; replace yc := yc.trans x3; replace s1 := s1.ext x3)
    | (go_at_call 29; refine (rsame_yes _ _ _ _ _ _ s1 s2 ok1).mono ?_; rintro e w4 ⟨rfl, x4⟩; replace yc := yc.trans x4))
  clear p1 p2 s1 s2 x2 x3 x4
  go_loopw [13, 14, 15, 16, 17, 18, 19, 20, 21] (fun i _ _ _ _ _ _ _ _ wr => ∃ k : Nat, k ≤ names.length ∧ i = .int .i64 k ∧ Ext (w.alloc (.cells #[.int .i64 vk, .int .i64 vn, .string vs] 29)) wr) (fun i _ _ _ _ _ _ _ _ _ => names.length - (intOf i).toNat)
  case atStart => exact ⟨0, by omega, rfl, yc⟩
  case round =>
    clear yc
    obtain ⟨k, hk, rfl, yc⟩ := hrel
    by_cases hlt : k < names.length
    · obtain ⟨b, off, hP, g0⟩ := nameAt' h3 k hlt
      subst hP
      have g0 := (hw0.trans yc).cell g0
      obtain ⟨z0, z1, z2⟩ := box3 yc
      have c1 : (k : Int) < names.length := by omega
      have d1 : IntKind.i64.wrap ((k : Int) + 1) = (k : Int) + 1 := IntWalk.i64_in _ ⟨by omega, by omega⟩
      generalize nthS names k = n at *
      have f1 := fun W hx => find_any P cap l n W (h.ext hx)
      have f2 := fun W hx => rfind_any P cap l n W (h.ext hx)
      generalize findF l n = ff at *
      have u1 := fun W hx => put_any P Q cap cap2 l r n (vk, vn, vs) W (h.ext hx) (h2.ext hx)
      have u2 := fun W hx => rput_any P Q cap cap2 l r n (vk, vn, vs) W (h.ext hx) (h2.ext hx)
      unfold Vl.v at u1 u2
      simp only at u1 u2
      rcases putF_cases l r n (vk, vn, vs) with ⟨e9, he9, hpe⟩ | ⟨q, hq, hpe, hfe, hpk⟩
      · simp only [hpe] at u1 u2
        clear hpe
        go_wp2_with (first
          | (go_at_call 38; refine (f1 _ (hw0.trans yc)).mono ?_; rintro e w2 ⟨rfl, x2⟩; replace yc := yc.trans x2; replace g0 := x2.cell g0; replace z0 := x2.cell z0; replace z1 := x2.cell z1; replace z2 := x2.cell z2)
          | (go_at_call 39; refine (f2 _ (hw0.trans yc)).mono ?_; rintro e w3 ⟨rfl, x3⟩; replace yc := yc.trans x3; replace g0 := x3.cell g0; replace z0 := x3.cell z0; replace z1 := x3.cell z1; replace z2 := x3.cell z2))
        have yd := (hw0.trans yc).drew
        go_region_held3 (fun w' => w'.cell? ⟨b, off + k, none⟩ = some (.string n) ∧ w'.cell? ⟨w.heap.size, 0, none⟩ = some (.int .i64 vk) ∧ w'.cell? ⟨w.heap.size, 1, none⟩ = some (.int .i64 vn) ∧ w'.cell? ⟨w.heap.size, 2, none⟩ = some (.string vs)) (go_keep)
          (first
            | (go_at_call 40; refine (u1 _ yd).mono ?_; rintro e w5 ⟨⟨u5, rfl, Q5, d5, rfl, s5⟩, x5⟩; have y0 := x5.cell g0; have y1 := x5.cell z0; have y2 := x5.cell z1; have y3 := x5.cell z2)
            | fail)
        replace g0 := y0
        replace z0 := y1
        replace z1 := y2
        replace z2 := y3
        replace yc := yc.drew.trans x5
        
        clear y0 y1 y2 y3 yd
        go_wp2
        have yd := (hw0.trans yc).drew
        go_region_held3 (fun w' => w'.cell? ⟨b, off + k, none⟩ = some (.string n) ∧ w'.cell? ⟨w.heap.size, 0, none⟩ = some (.int .i64 vk) ∧ w'.cell? ⟨w.heap.size, 1, none⟩ = some (.int .i64 vn) ∧ w'.cell? ⟨w.heap.size, 2, none⟩ = some (.string vs)) (go_keep)
          (first
            | (go_at_call 41; refine (u2 _ yd).mono ?_; rintro e w6 ⟨⟨u6, rfl, Q6, d6, rfl, s6⟩, x6⟩; have y0 := x6.cell g0; have y1 := x6.cell z0; have y2 := x6.cell z1; have y3 := x6.cell z2)
            | fail)
        replace g0 := y0
        replace z0 := y1
        replace z1 := y2
        replace z2 := y3
        replace yc := yc.drew.trans x6
        replace s5 := s5.ext ((Ext.refl _).drew.trans x6)
        clear y0 y1 y2 y3 yd
        go_wp2_with (first
          | (go_at_call 29; refine (rsame_yes _ _ _ _ _ _ s5 s6 (fun x hx => by cases hx)).mono ?_; rintro e w7 ⟨rfl, x7⟩; replace yc := yc.trans x7))
        go_roundw
        case rel => exact ⟨k + 1, by omega, by go_num, yc⟩
        case measure => simp [intOf]; omega
      · simp only [hpe] at u1 u2
        go_wp2_with (first
          | (go_at_call 38; refine (f1 _ (hw0.trans yc)).mono ?_; rintro e w2 ⟨rfl, x2⟩; replace yc := yc.trans x2; replace g0 := x2.cell g0; replace z0 := x2.cell z0; replace z1 := x2.cell z1; replace z2 := x2.cell z2)
          | (go_at_call 39; refine (f2 _ (hw0.trans yc)).mono ?_; rintro e w3 ⟨rfl, x3⟩; replace yc := yc.trans x3; replace g0 := x3.cell g0; replace z0 := x3.cell z0; replace z1 := x3.cell z1; replace z2 := x3.cell z2))
        have yd := (hw0.trans yc).drew
        go_region_held3 (fun w' => w'.cell? ⟨b, off + k, none⟩ = some (.string n) ∧ w'.cell? ⟨w.heap.size, 0, none⟩ = some (.int .i64 vk) ∧ w'.cell? ⟨w.heap.size, 1, none⟩ = some (.int .i64 vn) ∧ w'.cell? ⟨w.heap.size, 2, none⟩ = some (.string vs)) (go_keep)
          (first
            | (go_at_call 40; refine (u1 _ yd).mono ?_; rintro e w5 ⟨⟨u5, rfl, Q5, d5, rfl, s5⟩, x5⟩; have y0 := x5.cell g0; have y1 := x5.cell z0; have y2 := x5.cell z1; have y3 := x5.cell z2)
            | fail)
        replace g0 := y0
        replace z0 := y1
        replace z1 := y2
        replace z2 := y3
        replace yc := yc.drew.trans x5
        
        clear y0 y1 y2 y3 yd
        go_wp2
        have yd := (hw0.trans yc).drew
        go_region_held3 (fun w' => w'.cell? ⟨b, off + k, none⟩ = some (.string n) ∧ w'.cell? ⟨w.heap.size, 0, none⟩ = some (.int .i64 vk) ∧ w'.cell? ⟨w.heap.size, 1, none⟩ = some (.int .i64 vn) ∧ w'.cell? ⟨w.heap.size, 2, none⟩ = some (.string vs)) (go_keep)
          (first
            | (go_at_call 41; refine (u2 _ yd).mono ?_; rintro e w6 ⟨⟨u6, rfl, Q6, d6, rfl, s6⟩, x6⟩; have y0 := x6.cell g0; have y1 := x6.cell z0; have y2 := x6.cell z1; have y3 := x6.cell z2)
            | fail)
        replace g0 := y0
        replace z0 := y1
        replace z1 := y2
        replace z2 := y3
        replace yc := yc.drew.trans x6
        replace s5 := s5.ext ((Ext.refl _).drew.trans x6)
        clear y0 y1 y2 y3 yd
        have ok5 : OkL (r.set q (vk, vn, vs)) := okL_set o2 ov q
        have hpk' := fun W hx (R9 : Option Addr) (c9 : Nat) h9 Q9 e9 (s9 : SlV W Q9 e9 (r.set q (vk, vn, vs))) => pick_any P Q9 R9 cap e9 c9 l (r.set q (vk, vn, vs)) [n] W (h.ext hx) s9 h9 (by simp)
        have hfe' := fun W hx Q9 e9 (s9 : SlV W Q9 e9 (r.set q (vk, vn, vs))) => fits_any P Q9 cap e9 l (r.set q (vk, vn, vs)) W (h.ext hx) s9
        simp only [hpk] at hpk'
        simp only [hfe] at hfe'
        clear hpk hfe hpe u1 u2
        have HRL := Lib.hid (show (r.set q (vk, vn, vs)).length = r.length from by simp)
        generalize r.set q (vk, vn, vs) = rr at *
        simp only [HRL.out] at hpk' hfe'
        go_wp2_with (first
          | (go_at_call 29; have hS := rsame_yes _ _ _ _ _ _ s5 s6 ok5; rw [HRL.out] at hS; refine hS.mono ?_; rintro e w7 ⟨rfl, x7⟩; replace yc := yc.trans x7; replace s5 := s5.ext x7; replace g0 := x7.cell g0; replace z0 := x7.cell z0; replace z1 := x7.cell z1; replace z2 := x7.cell z2)
          | (go_at_call 34; refine (hpk' _ ((hw0.trans yc).alloc _) _ _ (slS_one _ _ _) _ _ (s5.ext ((Ext.refl _).alloc _))).mono ?_; rintro e w8 ⟨⟨u8, rfl, Q8, d8, rfl, s8⟩, x8⟩; replace yc := (yc.alloc _).trans x8; replace s5 := s5.ext (((Ext.refl _).alloc _).trans x8); obtain ⟨z0, z1, z2⟩ := box3 yc))
        obtain ⟨b8, off8, hQ8, v0, v1, v2⟩ := s8.valAt 0 (by simp)
        simp only [Nat.zero_mul, Nat.add_zero] at v0 v1 v2
        rw [show nthV [(vk, vn, vs)] 0 = (vk, vn, vs) from rfl] at v0 v1 v2
        subst hQ8
        have yd := (hw0.trans yc).drew
        replace s5 := s5.ext ((Ext.refl _).drew)
        go_region_held3 (fun w' => w'.cell? ⟨b8, off8, none⟩ = some (.int .i64 vk) ∧ w'.cell? ⟨b8, off8 + 1, none⟩ = some (.int .i64 vn) ∧ w'.cell? ⟨b8, off8 + 2, none⟩ = some (.string vs) ∧ w'.cell? ⟨w.heap.size, 0, none⟩ = some (.int .i64 vk) ∧ w'.cell? ⟨w.heap.size, 1, none⟩ = some (.int .i64 vn) ∧ w'.cell? ⟨w.heap.size, 2, none⟩ = some (.string vs)) (go_keep)
          (first
            | (go_at_call 22; refine (hfe' _ yd _ _ s5).mono ?_; rintro e w9 ⟨rfl, x9⟩; have y0 := x9.cell v0; have y1 := x9.cell v1; have y2 := x9.cell v2; have y3 := x9.cell z0; have y4 := x9.cell z1; have y5 := x9.cell z2)
            | fail)
        replace yc := yc.drew.trans x9
        go_wp2
        go_roundw
        case rel => exact ⟨k + 1, by omega, by go_num, yc⟩
        case measure => simp [intOf]; omega
    · obtain rfl : k = names.length := by omega
      have d2 := fun W hx => default_any P cap l W (h.ext hx)
      have d3 := fun W hx => rdefault_any P cap l W (h.ext hx)
      have f2 := fun (hv : itemsB l = true) W hx Q9 e9 (s9 : SlV W Q9 e9 (l.map defV)) => fits_any P Q9 cap e9 l (l.map defV) W (h.ext hx) s9
      have od := okL_def l
      cases hv : itemsB l with
      | false =>
        have hd : defF l = ([], 1) := by simp [defF, hv]
        simp only [hd] at d2 d3 od
        clear hd hv f2
        go_wp2_with (first
          | (go_at_call 42; refine (d2 _ (hw0.trans yc)).mono ?_; rintro e w2 ⟨⟨u2, rfl, Q2, e2, rfl, s2⟩, x2⟩; replace yc := yc.trans x2)
          | (go_at_call 43; refine (d3 _ (hw0.trans yc)).mono ?_; rintro e w3 ⟨⟨u3, rfl, Q3, e3, rfl, s3⟩, x3⟩; replace yc := yc.trans x3; replace s2 := s2.ext x3)
          | (go_at_call 29; refine (rsame_yes _ _ _ _ _ _ s2 s3 od).mono ?_; rintro e w4 ⟨rfl, x4⟩; replace yc := yc.trans x4; replace s2 := s2.ext x4)
          | (go_at_call 11; refine (aw _ (hw0.trans yc)).mono ?_; rintro e w7 ⟨rfl, hx7⟩))
        go_ret
        exact ⟨rfl, (hw0.trans yc).trans hx7⟩
      | true =>
        have hd : defF l = (l.map defV, 0) := by simp [defF, hv]
        have hfd := fits_def hv
        have f3 := f2 hv
        simp only [hfd] at f3
        simp only [hd] at d2 d3 od
        clear hd hv f2 hfd
        generalize l.map defV = ll at *
        go_wp2_with (first
          | (go_at_call 42; refine (d2 _ (hw0.trans yc)).mono ?_; rintro e w2 ⟨⟨u2, rfl, Q2, e2, rfl, s2⟩, x2⟩; replace yc := yc.trans x2)
          | (go_at_call 43; refine (d3 _ (hw0.trans yc)).mono ?_; rintro e w3 ⟨⟨u3, rfl, Q3, e3, rfl, s3⟩, x3⟩; replace yc := yc.trans x3; replace s2 := s2.ext x3)
          | (go_at_call 29; refine (rsame_yes _ _ _ _ _ _ s2 s3 od).mono ?_; rintro e w4 ⟨rfl, x4⟩; replace yc := yc.trans x4; replace s2 := s2.ext x4)
          | (go_at_call 22; have hS := f3 _ (hw0.trans yc) _ _ s2; refine hS.mono ?_; rintro e w5 ⟨rfl, x5⟩; replace yc := yc.trans x5)
          | (go_at_call 11; refine (aw _ (hw0.trans yc)).mono ?_; rintro e w7 ⟨rfl, hx7⟩))
        go_ret
        exact ⟨rfl, (hw0.trans yc).trans hx7⟩
end Go.Proofs.YtepgpejdnlejnaaDoor
