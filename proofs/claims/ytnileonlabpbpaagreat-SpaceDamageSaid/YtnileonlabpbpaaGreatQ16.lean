/- SpS; SpT; SpU (merged by group.py) -/
import Derived.Test.YtnileonlabpbpaaGreatQ15
namespace Go.Proofs.YtnileonlabpbpaaGreat
section
open Go.RowKit
set_option linter.unusedVariables false
set_option linter.unusedSimpArgs false
set_option linter.unusedSectionVars false
set_option maxRecDepth 20000

/-- what a changing call gives back: the area as it was, or one of its own -/
def NextR (w : World) (P : Option Addr) (w' : World) (v : Value) (size : Nat) (l : List ByteArray) : Prop :=
  ∃ P' c, v = .agg #[.int .i64 size, .slice P' l.length c] ∧ RS w' P' c size l ∧ (P' = P ∨ ∃ g, P' = some ⟨g, 0, none⟩ ∧ w.heap.size ≤ g)
theorem NextR.same {w w' : World} {P : Option Addr} {cap size : Nat} {l : List ByteArray} (h : RS w P cap size l) (hx : Ext w w') : NextR w P w' (.agg #[.int .i64 size, .slice P l.length cap]) size l := ⟨P, cap, rfl, h.ext hx, .inl rfl⟩
theorem NextR.own {w w' : World} {P : Option Addr} {size g c n : Nat} {l : List ByteArray} (h : OwnS w' w.heap.size (.slice (some ⟨g, 0, none⟩) n c) l) (hn : n = l.length) (hg : GoodL size l) : NextR w P w' (.agg #[.int .i64 size, .slice (some ⟨g, 0, none⟩) n c]) size l := by
  obtain ⟨g', c', e, h1, h2⟩ := NewR.of_own h hn hg
  injection e with e1
  exact ⟨some ⟨g', 0, none⟩, c', by rw [← e1], h2, .inr ⟨g', rfl, h1⟩⟩
theorem NextR.later {w w1 w2 w3 : World} {P : Option Addr} {v : Value} {size : Nat} {l : List ByteArray} (h : NextR w1 P w2 v size l) (hx : Ext w w1) (hy : Ext w2 w3) : NextR w P w3 v size l := by
  obtain ⟨P', c, e, h1, h2⟩ := h
  refine ⟨P', c, e, h1.ext hy, h2.imp id ?_⟩
  rintro ⟨g, e1, h3⟩
  exact ⟨g, e1, Nat.le_trans hx.size h3⟩
theorem GoodL.set {size : Nat} {l : List ByteArray} (h : GoodL size l) (q : Nat) (hq : q < l.length) {p : ByteArray} (hp : ValidR p ∧ p.size = size) : GoodL size (l.set q p) := by
  refine ⟨fun i hi => ?_, by rw [List.length_set]; exact h.pos, by rw [List.length_set]; exact h.le, h.sz⟩
  rw [List.length_set] at hi
  rw [nthB_set l q i p hq]
  by_cases e : i = q
  · rw [if_pos e]; exact hp
  · rw [if_neg e]; exact h.good i hi
/-- the pages after a change of page q that gave r -/
def aft (l : List ByteArray) (q : Nat) (r : ByteArray × Int) : List ByteArray := if r.2 = 0 then l.set q r.1 else l
theorem aft_len (l : List ByteArray) (q : Nat) (r : ByteArray × Int) : (aft l q r).length = l.length := by
  unfold aft; split <;> simp
theorem refWith7 (P : Option Addr) (size cap q : Nat) (l : List ByteArray) (r : ByteArray × Int) {w : World} (h : RS w P cap size l) (hq : q < l.length) (hr : r.2 = 0 → ValidR r.1 ∧ r.1.size = size) :
    Calls Tryz.prog 84 #[.agg #[.int .i64 size, .slice P l.length cap], .int .i64 q, .string r.1, .int .i64 r.2] w fun e w' => (∃ v, e = .returned (.tuple #[v, .int .i64 r.2]) ∧ NextR w P w' v size (aft l q r)) ∧ Ext w w' := by
  obtain ⟨p, e⟩ := r
  by_cases he : e = 0
  · subst he
    refine (refWith7_ok P size cap q l p h hq).mono ?_
    rintro e w1 ⟨⟨g, c, rfl, ho⟩, hx⟩
    refine ⟨⟨_, rfl, ?_⟩, hx⟩
    rw [show aft l q (p, 0) = l.set q p from if_pos rfl]
    exact NextR.own ho (by simp) (h.goodL.set q hq (hr rfl))
  · refine (refWith7_err P size cap l.length q e p he).mono ?_
    rintro e w1 ⟨rfl, hx⟩
    refine ⟨⟨_, rfl, ?_⟩, hx⟩
    rw [show aft l q (p, e) = l from if_neg he]
    exact NextR.same h hx
theorem RS.upd {w w' : World} {P : Option Addr} {cap size B : Nat} {l : List ByteArray} (h : RS w P cap size l) (hu : Upd w B w') (hne : ∀ b off m, P = some ⟨b, off, m⟩ → b ≠ B) : RS w' P cap size l := by
  refine ⟨⟨fun i x hi => ?_, h.sl.le, h.sl.cap⟩, h.nil, h.good, h.pos, h.le, h.sz⟩
  obtain ⟨b, off, e, h1⟩ := h.sl.at_ i x hi
  exact ⟨b, off, e, fun j u hj => hu.cell (h1 j u hj) (hne b off none e)⟩
theorem two2_eq (r : ByteArray × Int) : two2 r = .returned (.tuple #[.string r.1, .int .i64 r.2]) := rfl
set_option maxHeartbeats 2000000 in
theorem refPutAt7_at (P : Option Addr) (size cap q : Nat) (l : List ByteArray) (y : Int) (s : ByteArray) (r : ByteArray × Int) {w : World} (h : RS w P cap size l) (hq : q < l.length) (hy : 1 ≤ y ∧ y ≤ 200) (hs : s.toList ≠ []) (hr : r.2 = 0 → ValidR r.1 ∧ r.1.size = size)
    (hc : ∀ W, Calls Tryz.prog 83 #[.string (nthB l q), .int .i64 y, .string s] W fun e w' => e = two2 r ∧ Ext W w') :
    Calls Tryz.prog 38 #[.agg #[.int .i64 size, .slice P l.length cap], .agg #[.int .i64 q, .int .i64 y], .string s] w fun e w' => (∃ v, e = .returned (.tuple #[v, .int .i64 r.2]) ∧ NextR w P w' v size (aft l q r)) ∧ Ext w w' := by
  have d3 : s.toList.isEmpty = false := by simpa using hs
  clear hs
  have c1 : (q : Int) < l.length := by omega
  have c1n : q < l.length := hq
  have hW := fun W hW => refWith7 P size cap q l r (w := W) hW hq hr
  have hP := fun W => refPlace7 P size cap l q y (w := W) h.le
  rw [show plF l (q : Int) y = 0 from by unfold plF; rw [if_pos ⟨by omega, by omega⟩, if_pos hy]] at hP
  have HL := Lib.hid (aft_len l q r)
  obtain ⟨b, off, rfl, hcell⟩ := h.cell q hq
  have hx0 := (((Ext.refl w).alloc (.cells #[.int .i64 size, .slice (some ⟨b, off, none⟩) l.length cap] 28)).alloc (.cells #[.int .i64 q, .int .i64 y] 33)).alloc (.cells #[.int .i64 0, .slice none 0 0] 28)
  have hs1 : (w.alloc (.cells #[.int .i64 size, .slice (some ⟨b, off, none⟩) l.length cap] 28)).heap.size = w.heap.size + 1 := by simp
  have hs2 : ((w.alloc (.cells #[.int .i64 size, .slice (some ⟨b, off, none⟩) l.length cap] 28)).alloc (.cells #[.int .i64 q, .int .i64 y] 33)).heap.size = w.heap.size + 1 + 1 := by simp
  have hRA := ((RCell.new w (.int .i64 size) (.slice (some ⟨b, off, none⟩) l.length cap)).ext ((Ext.refl _).alloc (.cells #[.int .i64 q, .int .i64 y] 33))).ext ((Ext.refl _).alloc (.cells #[.int .i64 0, .slice none 0 0] 28))
  have hRB := RCell.new ((w.alloc (.cells #[.int .i64 size, .slice (some ⟨b, off, none⟩) l.length cap] 28)).alloc (.cells #[.int .i64 q, .int .i64 y] 33)) (.int .i64 0) (.slice none 0 0)
  rw [hs2] at hRB
  have hbk := World.alloc_heap_new (w.alloc (.cells #[.int .i64 size, .slice (some ⟨b, off, none⟩) l.length cap] 28)) (.cells #[.int .i64 q, .int .i64 y] 33)
  rw [hs1] at hbk
  have hbk := ((Ext.refl _).alloc (.cells #[.int .i64 0, .slice none 0 0] 28)).heap hbk
  have hk0 := (show World.cell? _ ⟨w.heap.size + 1, 0, none⟩ = some (.int .i64 q) from by unfold World.cell?; rw [hbk]; rfl)
  have hk1 := (show World.cell? _ ⟨w.heap.size + 1, 1, none⟩ = some (.int .i64 y) from by unfold World.cell?; rw [hbk]; rfl)
  have hbw := block_lt hcell
  have h0 := h.ext hx0
  have hcell := hx0.cell hcell
  clear hbk hs1 hs2 hr h
  unfold two2 at hc
  have hc2 := fun {W : World} => hc W
  generalize aft l q r = L at *
  generalize r.1 = rp at *
  generalize r.2 = re at *
  go_enter Tryz.func38, Tryz.ntmps38
  go_wp2_with (go_at_call 57; refine (hP _).mono ?_; rintro e w1 ⟨rfl, hx1⟩; have hA := hRA.ext hx1; have a0 := hA.cells.1; have a1 := hA.cells.2.1; have k0 := hx1.cell hk0; have k1 := hx1.cell hk1; have cc := hx1.cell hcell; have h1 := h0.ext hx1; have hB := hRB.ext hx1)
  go_region_held3 (fun w' => w'.cell? ⟨w.heap.size, 1, none⟩ = some (.slice (some ⟨b, off, none⟩) l.length cap) ∧ w'.cell? ⟨w.heap.size + 1, 0, none⟩ = some (.int .i64 q) ∧ w'.cell? ⟨w.heap.size + 1, 1, none⟩ = some (.int .i64 y) ∧ w'.cell? ⟨b, off + q, none⟩ = some (.string (nthB l q))) (first | go_keep | (refine ⟨Ext.cell ?_ a1, Ext.cell ?_ k0, Ext.cell ?_ k1, Ext.cell ?_ cc⟩ <;> (repeat (first | exact Ext.refl _ | assumption | refine Ext.trans ?_ hx2 | refine Ext.drew ?_ | refine Ext.drewN ?_ _)))) (first | (go_at_call 83; (with_reducible refine hc2.mono ?_); rintro e w2 ⟨rfl, hx2⟩) | fail)
  have hD := ((Ext.refl w1).drew).trans hx2
  have a0 := hD.cell a0
  have a1 := hD.cell a1
  have k0 := hD.cell k0
  have k1 := hD.cell k1
  have h2 := h1.ext hD
  have hB := hB.ext hD
  have hsz2 := (hx0.trans (hx1.trans hD)).size
  have hblt := hB.lt
  clear h0 h1 hA hRA hRB
  go_wp2_with (go_at_call 84; (with_reducible refine (hW _ h2).mono ?_); rintro e w3 ⟨⟨v3, rfl, hn⟩, hx3⟩; obtain ⟨P', c', rfl, hrs, hor⟩ := hn; have hB3 := hB.ext hx3; have q0 := hB3.cells.1; have q1 := hB3.cells.2.1; have qf0 := hB3.cells.2.2.1; have qf1 := hB3.cells.2.2.2; have hB4 := hB3.set0 (.int .i64 size); have s1 := hB4.cells.2.1; have sf1 := hB4.cells.2.2.2; have r0 := (hB3.read (.int .i64 size) (.slice P' L.length c')).1; have r1 := (hB3.read (.int .i64 size) (.slice P' L.length c')).2)
  have hne : ∀ b' off' m, P' = some ⟨b', off', m⟩ → b' ≠ w.heap.size + 1 + 1 := by
    intro b' off' m e
    rcases hor with h3 | ⟨g, h3, h4⟩
    · rw [e] at h3; injection h3 with h3; injection h3 with h3; omega
    · rw [e] at h3; injection h3 with h3; injection h3 with h3; omega
  have hrs := (hrs.upd (Upd.setCell w3 (w.heap.size + 1 + 1) 0 (.int .i64 size)) hne).upd (Upd.setCell _ (w.heap.size + 1 + 1) 1 (.slice P' L.length c')) hne
  have hxF := ((hx0.trans (hx1.trans (hD.trans hx3))).setCell (p := ⟨w.heap.size + 1 + 1, 0, none⟩) (show w.heap.size ≤ w.heap.size + 1 + 1 from by omega) (.int .i64 size)).setCell (p := ⟨w.heap.size + 1 + 1, 1, none⟩) (show w.heap.size ≤ w.heap.size + 1 + 1 from by omega) (.slice P' L.length c')
  exact bodyPost_ret (v := .tuple #[.agg #[.int .i64 size, .slice P' L.length c'], .int .i64 re]) (by simp [results, Tryz.results38, go_sem, r0, r1]) rfl ⟨⟨_, rfl, P', c', rfl, hrs, hor.imp id (fun ⟨g, e, h4⟩ => ⟨g, e, Nat.le_trans hsz2 h4⟩)⟩, hxF⟩
set_option maxHeartbeats 2000000 in
theorem refSet7_at (P : Option Addr) (size cap q : Nat) (l : List ByteArray) (y : Int) (s : ByteArray) (r : ByteArray × Int) {w : World} (h : RS w P cap size l) (hq : q < l.length) (hy : 1 ≤ y ∧ y ≤ 200) (hs : s.toList ≠ []) (hr : r.2 = 0 → ValidR r.1 ∧ r.1.size = size)
    (hc : ∀ W, Calls Tryz.prog 85 #[.string (nthB l q), .int .i64 y, .string s] W fun e w' => e = two2 r ∧ Ext W w') :
    Calls Tryz.prog 39 #[.agg #[.int .i64 size, .slice P l.length cap], .agg #[.int .i64 q, .int .i64 y], .string s] w fun e w' => (∃ v, e = .returned (.tuple #[v, .int .i64 r.2]) ∧ NextR w P w' v size (aft l q r)) ∧ Ext w w' := by
  have d3 : s.toList.isEmpty = false := by simpa using hs
  clear hs
  have c1 : (q : Int) < l.length := by omega
  have c1n : q < l.length := hq
  have hW := fun W hW => refWith7 P size cap q l r (w := W) hW hq hr
  have hP := fun W => refPlace7 P size cap l q y (w := W) h.le
  rw [show plF l (q : Int) y = 0 from by unfold plF; rw [if_pos ⟨by omega, by omega⟩, if_pos hy]] at hP
  have HL := Lib.hid (aft_len l q r)
  obtain ⟨b, off, rfl, hcell⟩ := h.cell q hq
  have hx0 := (((Ext.refl w).alloc (.cells #[.int .i64 size, .slice (some ⟨b, off, none⟩) l.length cap] 28)).alloc (.cells #[.int .i64 q, .int .i64 y] 33)).alloc (.cells #[.int .i64 0, .slice none 0 0] 28)
  have hs1 : (w.alloc (.cells #[.int .i64 size, .slice (some ⟨b, off, none⟩) l.length cap] 28)).heap.size = w.heap.size + 1 := by simp
  have hs2 : ((w.alloc (.cells #[.int .i64 size, .slice (some ⟨b, off, none⟩) l.length cap] 28)).alloc (.cells #[.int .i64 q, .int .i64 y] 33)).heap.size = w.heap.size + 1 + 1 := by simp
  have hRA := ((RCell.new w (.int .i64 size) (.slice (some ⟨b, off, none⟩) l.length cap)).ext ((Ext.refl _).alloc (.cells #[.int .i64 q, .int .i64 y] 33))).ext ((Ext.refl _).alloc (.cells #[.int .i64 0, .slice none 0 0] 28))
  have hRB := RCell.new ((w.alloc (.cells #[.int .i64 size, .slice (some ⟨b, off, none⟩) l.length cap] 28)).alloc (.cells #[.int .i64 q, .int .i64 y] 33)) (.int .i64 0) (.slice none 0 0)
  rw [hs2] at hRB
  have hbk := World.alloc_heap_new (w.alloc (.cells #[.int .i64 size, .slice (some ⟨b, off, none⟩) l.length cap] 28)) (.cells #[.int .i64 q, .int .i64 y] 33)
  rw [hs1] at hbk
  have hbk := ((Ext.refl _).alloc (.cells #[.int .i64 0, .slice none 0 0] 28)).heap hbk
  have hk0 := (show World.cell? _ ⟨w.heap.size + 1, 0, none⟩ = some (.int .i64 q) from by unfold World.cell?; rw [hbk]; rfl)
  have hk1 := (show World.cell? _ ⟨w.heap.size + 1, 1, none⟩ = some (.int .i64 y) from by unfold World.cell?; rw [hbk]; rfl)
  have hbw := block_lt hcell
  have h0 := h.ext hx0
  have hcell := hx0.cell hcell
  clear hbk hs1 hs2 hr h
  unfold two2 at hc
  have hc2 := fun {W : World} => hc W
  generalize aft l q r = L at *
  generalize r.1 = rp at *
  generalize r.2 = re at *
  go_enter Tryz.func39, Tryz.ntmps39
  go_wp2_with (go_at_call 57; refine (hP _).mono ?_; rintro e w1 ⟨rfl, hx1⟩; have hA := hRA.ext hx1; have a0 := hA.cells.1; have a1 := hA.cells.2.1; have k0 := hx1.cell hk0; have k1 := hx1.cell hk1; have cc := hx1.cell hcell; have h1 := h0.ext hx1; have hB := hRB.ext hx1)
  go_region_held3 (fun w' => w'.cell? ⟨w.heap.size, 1, none⟩ = some (.slice (some ⟨b, off, none⟩) l.length cap) ∧ w'.cell? ⟨w.heap.size + 1, 0, none⟩ = some (.int .i64 q) ∧ w'.cell? ⟨w.heap.size + 1, 1, none⟩ = some (.int .i64 y) ∧ w'.cell? ⟨b, off + q, none⟩ = some (.string (nthB l q))) (first | go_keep | (refine ⟨Ext.cell ?_ a1, Ext.cell ?_ k0, Ext.cell ?_ k1, Ext.cell ?_ cc⟩ <;> (repeat (first | exact Ext.refl _ | assumption | refine Ext.trans ?_ hx2 | refine Ext.drew ?_ | refine Ext.drewN ?_ _)))) (first | (go_at_call 85; (with_reducible refine hc2.mono ?_); rintro e w2 ⟨rfl, hx2⟩) | fail)
  have hD := ((Ext.refl w1).drew).trans hx2
  have a0 := hD.cell a0
  have a1 := hD.cell a1
  have k0 := hD.cell k0
  have k1 := hD.cell k1
  have h2 := h1.ext hD
  have hB := hB.ext hD
  have hsz2 := (hx0.trans (hx1.trans hD)).size
  have hblt := hB.lt
  clear h0 h1 hA hRA hRB
  go_wp2_with (go_at_call 84; (with_reducible refine (hW _ h2).mono ?_); rintro e w3 ⟨⟨v3, rfl, hn⟩, hx3⟩; obtain ⟨P', c', rfl, hrs, hor⟩ := hn; have hB3 := hB.ext hx3; have q0 := hB3.cells.1; have q1 := hB3.cells.2.1; have qf0 := hB3.cells.2.2.1; have qf1 := hB3.cells.2.2.2; have hB4 := hB3.set0 (.int .i64 size); have s1 := hB4.cells.2.1; have sf1 := hB4.cells.2.2.2; have r0 := (hB3.read (.int .i64 size) (.slice P' L.length c')).1; have r1 := (hB3.read (.int .i64 size) (.slice P' L.length c')).2)
  have hne : ∀ b' off' m, P' = some ⟨b', off', m⟩ → b' ≠ w.heap.size + 1 + 1 := by
    intro b' off' m e
    rcases hor with h3 | ⟨g, h3, h4⟩
    · rw [e] at h3; injection h3 with h3; injection h3 with h3; omega
    · rw [e] at h3; injection h3 with h3; injection h3 with h3; omega
  have hrs := (hrs.upd (Upd.setCell w3 (w.heap.size + 1 + 1) 0 (.int .i64 size)) hne).upd (Upd.setCell _ (w.heap.size + 1 + 1) 1 (.slice P' L.length c')) hne
  have hxF := ((hx0.trans (hx1.trans (hD.trans hx3))).setCell (p := ⟨w.heap.size + 1 + 1, 0, none⟩) (show w.heap.size ≤ w.heap.size + 1 + 1 from by omega) (.int .i64 size)).setCell (p := ⟨w.heap.size + 1 + 1, 1, none⟩) (show w.heap.size ≤ w.heap.size + 1 + 1 from by omega) (.slice P' L.length c')
  exact bodyPost_ret (v := .tuple #[.agg #[.int .i64 size, .slice P' L.length c'], .int .i64 re]) (by simp [results, Tryz.results39, go_sem, r0, r1]) rfl ⟨⟨_, rfl, P', c', rfl, hrs, hor.imp id (fun ⟨g, e, h4⟩ => ⟨g, e, Nat.le_trans hsz2 h4⟩)⟩, hxF⟩
set_option maxHeartbeats 2000000 in
theorem refDrop7_at (P : Option Addr) (size cap q : Nat) (l : List ByteArray) (y : Int) (r : ByteArray × Int) {w : World} (h : RS w P cap size l) (hq : q < l.length) (hy : 1 ≤ y ∧ y ≤ 200) (hr : r.2 = 0 → ValidR r.1 ∧ r.1.size = size)
    (hc : ∀ W, Calls Tryz.prog 86 #[.string (nthB l q), .int .i64 y] W fun e w' => e = two2 r ∧ Ext W w') :
    Calls Tryz.prog 40 #[.agg #[.int .i64 size, .slice P l.length cap], .agg #[.int .i64 q, .int .i64 y]] w fun e w' => (∃ v, e = .returned (.tuple #[v, .int .i64 r.2]) ∧ NextR w P w' v size (aft l q r)) ∧ Ext w w' := by
  have c1 : (q : Int) < l.length := by omega
  have c1n : q < l.length := hq
  have hW := fun W hW => refWith7 P size cap q l r (w := W) hW hq hr
  have hP := fun W => refPlace7 P size cap l q y (w := W) h.le
  rw [show plF l (q : Int) y = 0 from by unfold plF; rw [if_pos ⟨by omega, by omega⟩, if_pos hy]] at hP
  have HL := Lib.hid (aft_len l q r)
  obtain ⟨b, off, rfl, hcell⟩ := h.cell q hq
  have hx0 := (((Ext.refl w).alloc (.cells #[.int .i64 size, .slice (some ⟨b, off, none⟩) l.length cap] 28)).alloc (.cells #[.int .i64 q, .int .i64 y] 33)).alloc (.cells #[.int .i64 0, .slice none 0 0] 28)
  have hs1 : (w.alloc (.cells #[.int .i64 size, .slice (some ⟨b, off, none⟩) l.length cap] 28)).heap.size = w.heap.size + 1 := by simp
  have hs2 : ((w.alloc (.cells #[.int .i64 size, .slice (some ⟨b, off, none⟩) l.length cap] 28)).alloc (.cells #[.int .i64 q, .int .i64 y] 33)).heap.size = w.heap.size + 1 + 1 := by simp
  have hRA := ((RCell.new w (.int .i64 size) (.slice (some ⟨b, off, none⟩) l.length cap)).ext ((Ext.refl _).alloc (.cells #[.int .i64 q, .int .i64 y] 33))).ext ((Ext.refl _).alloc (.cells #[.int .i64 0, .slice none 0 0] 28))
  have hRB := RCell.new ((w.alloc (.cells #[.int .i64 size, .slice (some ⟨b, off, none⟩) l.length cap] 28)).alloc (.cells #[.int .i64 q, .int .i64 y] 33)) (.int .i64 0) (.slice none 0 0)
  rw [hs2] at hRB
  have hbk := World.alloc_heap_new (w.alloc (.cells #[.int .i64 size, .slice (some ⟨b, off, none⟩) l.length cap] 28)) (.cells #[.int .i64 q, .int .i64 y] 33)
  rw [hs1] at hbk
  have hbk := ((Ext.refl _).alloc (.cells #[.int .i64 0, .slice none 0 0] 28)).heap hbk
  have hk0 := (show World.cell? _ ⟨w.heap.size + 1, 0, none⟩ = some (.int .i64 q) from by unfold World.cell?; rw [hbk]; rfl)
  have hk1 := (show World.cell? _ ⟨w.heap.size + 1, 1, none⟩ = some (.int .i64 y) from by unfold World.cell?; rw [hbk]; rfl)
  have hbw := block_lt hcell
  have h0 := h.ext hx0
  have hcell := hx0.cell hcell
  clear hbk hs1 hs2 hr h
  unfold two2 at hc
  have hc2 := fun {W : World} => hc W
  generalize aft l q r = L at *
  generalize r.1 = rp at *
  generalize r.2 = re at *
  go_enter Tryz.func40, Tryz.ntmps40
  go_wp2_with (go_at_call 57; refine (hP _).mono ?_; rintro e w1 ⟨rfl, hx1⟩; have hA := hRA.ext hx1; have a0 := hA.cells.1; have a1 := hA.cells.2.1; have k0 := hx1.cell hk0; have k1 := hx1.cell hk1; have cc := hx1.cell hcell; have h1 := h0.ext hx1; have hB := hRB.ext hx1)
  go_region_held3 (fun w' => w'.cell? ⟨w.heap.size, 1, none⟩ = some (.slice (some ⟨b, off, none⟩) l.length cap) ∧ w'.cell? ⟨w.heap.size + 1, 0, none⟩ = some (.int .i64 q) ∧ w'.cell? ⟨w.heap.size + 1, 1, none⟩ = some (.int .i64 y) ∧ w'.cell? ⟨b, off + q, none⟩ = some (.string (nthB l q))) (first | go_keep | (refine ⟨Ext.cell ?_ a1, Ext.cell ?_ k0, Ext.cell ?_ k1, Ext.cell ?_ cc⟩ <;> (repeat (first | exact Ext.refl _ | assumption | refine Ext.trans ?_ hx2 | refine Ext.drew ?_ | refine Ext.drewN ?_ _)))) (first | (go_at_call 86; (with_reducible refine hc2.mono ?_); rintro e w2 ⟨rfl, hx2⟩) | fail)
  have hD := ((Ext.refl w1).drew).trans hx2
  have a0 := hD.cell a0
  have a1 := hD.cell a1
  have k0 := hD.cell k0
  have k1 := hD.cell k1
  have h2 := h1.ext hD
  have hB := hB.ext hD
  have hsz2 := (hx0.trans (hx1.trans hD)).size
  have hblt := hB.lt
  clear h0 h1 hA hRA hRB
  go_wp2_with (go_at_call 84; (with_reducible refine (hW _ h2).mono ?_); rintro e w3 ⟨⟨v3, rfl, hn⟩, hx3⟩; obtain ⟨P', c', rfl, hrs, hor⟩ := hn; have hB3 := hB.ext hx3; have q0 := hB3.cells.1; have q1 := hB3.cells.2.1; have qf0 := hB3.cells.2.2.1; have qf1 := hB3.cells.2.2.2; have hB4 := hB3.set0 (.int .i64 size); have s1 := hB4.cells.2.1; have sf1 := hB4.cells.2.2.2; have r0 := (hB3.read (.int .i64 size) (.slice P' L.length c')).1; have r1 := (hB3.read (.int .i64 size) (.slice P' L.length c')).2)
  have hne : ∀ b' off' m, P' = some ⟨b', off', m⟩ → b' ≠ w.heap.size + 1 + 1 := by
    intro b' off' m e
    rcases hor with h3 | ⟨g, h3, h4⟩
    · rw [e] at h3; injection h3 with h3; injection h3 with h3; omega
    · rw [e] at h3; injection h3 with h3; injection h3 with h3; omega
  have hrs := (hrs.upd (Upd.setCell w3 (w.heap.size + 1 + 1) 0 (.int .i64 size)) hne).upd (Upd.setCell _ (w.heap.size + 1 + 1) 1 (.slice P' L.length c')) hne
  have hxF := ((hx0.trans (hx1.trans (hD.trans hx3))).setCell (p := ⟨w.heap.size + 1 + 1, 0, none⟩) (show w.heap.size ≤ w.heap.size + 1 + 1 from by omega) (.int .i64 size)).setCell (p := ⟨w.heap.size + 1 + 1, 1, none⟩) (show w.heap.size ≤ w.heap.size + 1 + 1 from by omega) (.slice P' L.length c')
  exact bodyPost_ret (v := .tuple #[.agg #[.int .i64 size, .slice P' L.length c'], .int .i64 re]) (by simp [results, Tryz.results40, go_sem, r0, r1]) rfl ⟨⟨_, rfl, P', c', rfl, hrs, hor.imp id (fun ⟨g, e, h4⟩ => ⟨g, e, Nat.le_trans hsz2 h4⟩)⟩, hxF⟩
end
section
open Go.RowKit
set_option linter.unusedVariables false
set_option linter.unusedSimpArgs false
set_option linter.unusedSectionVars false
set_option maxRecDepth 20000

theorem RS.known {w : World} {P : Option Addr} {cap size : Nat} {l : List ByteArray} (h : RS w P cap size l) : ∃ b off, P = some ⟨b, off, none⟩ ∧ b < w.heap.size := by
  obtain ⟨b, off, e, hc⟩ := h.cell 0 h.pos
  exact ⟨b, off, e, block_lt hc⟩
set_option maxHeartbeats 2000000 in
theorem refPutAt7_empty (P : Option Addr) (size cap : Nat) (l : List ByteArray) (x y : Int) (s : ByteArray) {w : World} (h : RS w P cap size l) (hs : s.toList = []) :
    Calls Tryz.prog 38 #[.agg #[.int .i64 size, .slice P l.length cap], .agg #[.int .i64 x, .int .i64 y], .string s] w fun e w' => (∃ v, e = .returned (.tuple #[v, .int .i64 1]) ∧ NextR w P w' v size l) ∧ Ext w w' := by
  have d3 : s.toList.isEmpty = true := by simpa using hs
  clear hs
  have hx0 := (((Ext.refl w).alloc (.cells #[.int .i64 size, .slice P l.length cap] 28)).alloc (.cells #[.int .i64 x, .int .i64 y] 33)).alloc (.cells #[.int .i64 0, .slice none 0 0] 28)
  have hs2 : ((w.alloc (.cells #[.int .i64 size, .slice P l.length cap] 28)).alloc (.cells #[.int .i64 x, .int .i64 y] 33)).heap.size = w.heap.size + 1 + 1 := by simp
  have hRA := ((RCell.new w (.int .i64 size) (.slice P l.length cap)).ext ((Ext.refl _).alloc (.cells #[.int .i64 x, .int .i64 y] 33))).ext ((Ext.refl _).alloc (.cells #[.int .i64 0, .slice none 0 0] 28))
  have hRB := RCell.new ((w.alloc (.cells #[.int .i64 size, .slice P l.length cap] 28)).alloc (.cells #[.int .i64 x, .int .i64 y] 33)) (.int .i64 0) (.slice none 0 0)
  rw [hs2] at hRB
  have a0 := hRA.cells.1
  have a1 := hRA.cells.2.1
  have b0 := hRB.cells.1
  have b1 := hRB.cells.2.1
  have bf0 := hRB.cells.2.2.1
  have bf1 := hRB.cells.2.2.2
  have hRB0 := hRB.set0 (.int .i64 size)
  have s1 := hRB0.cells.2.1
  have sf1 := hRB0.cells.2.2.2
  have r0 := (hRB.read (.int .i64 size) (.slice P l.length cap)).1
  have r1 := (hRB.read (.int .i64 size) (.slice P l.length cap)).2
  go_enter Tryz.func38, Tryz.ntmps38
  go_wp2
  exact bodyPost_ret (v := .tuple #[.agg #[.int .i64 size, .slice P l.length cap], .int .i64 1]) (by simp [results, Tryz.results38, go_sem, r0, r1]) rfl ⟨⟨_, rfl, NextR.same h ((((Ext.refl w).alloc _).alloc _).alloc _)⟩, (((Ext.refl w).alloc _).alloc _).alloc _⟩
set_option maxHeartbeats 2000000 in
theorem refPutAt7_no (P : Option Addr) (size cap : Nat) (l : List ByteArray) (x y : Int) (s : ByteArray) {w : World} (h : RS w P cap size l) (hs : s.toList ≠ []) (hp : plF l x y ≠ 0) :
    Calls Tryz.prog 38 #[.agg #[.int .i64 size, .slice P l.length cap], .agg #[.int .i64 x, .int .i64 y], .string s] w fun e w' => (∃ v, e = .returned (.tuple #[v, .int .i64 (plF l x y)]) ∧ NextR w P w' v size l) ∧ Ext w w' := by
  have d3 : s.toList.isEmpty = false := by simpa using hs
  clear hs
  have hx0 := (((Ext.refl w).alloc (.cells #[.int .i64 size, .slice P l.length cap] 28)).alloc (.cells #[.int .i64 x, .int .i64 y] 33)).alloc (.cells #[.int .i64 0, .slice none 0 0] 28)
  have hs2 : ((w.alloc (.cells #[.int .i64 size, .slice P l.length cap] 28)).alloc (.cells #[.int .i64 x, .int .i64 y] 33)).heap.size = w.heap.size + 1 + 1 := by simp
  have hRA := ((RCell.new w (.int .i64 size) (.slice P l.length cap)).ext ((Ext.refl _).alloc (.cells #[.int .i64 x, .int .i64 y] 33))).ext ((Ext.refl _).alloc (.cells #[.int .i64 0, .slice none 0 0] 28))
  have hRB := RCell.new ((w.alloc (.cells #[.int .i64 size, .slice P l.length cap] 28)).alloc (.cells #[.int .i64 x, .int .i64 y] 33)) (.int .i64 0) (.slice none 0 0)
  rw [hs2] at hRB
  have hP := fun W => refPlace7 P size cap l x y (w := W) h.le
  have e1 : (plF l x y != 0) = true := by simpa using hp
  clear hp
  generalize plF l x y = er at *
  go_enter Tryz.func38, Tryz.ntmps38
  go_wp2_with (go_at_call 57; refine (hP _).mono ?_; rintro e w1 ⟨rfl, hx1⟩; have hA := hRA.ext hx1; have a0 := hA.cells.1; have a1 := hA.cells.2.1; have hB3 := hRB.ext hx1; have q0 := hB3.cells.1; have q1 := hB3.cells.2.1; have qf0 := hB3.cells.2.2.1; have qf1 := hB3.cells.2.2.2; have hB4 := hB3.set0 (.int .i64 size); have s1 := hB4.cells.2.1; have sf1 := hB4.cells.2.2.2; have r0 := (hB3.read (.int .i64 size) (.slice P l.length cap)).1; have r1 := (hB3.read (.int .i64 size) (.slice P l.length cap)).2)
  have hxF := ((hx0.trans hx1).setCell (p := ⟨w.heap.size + 1 + 1, 0, none⟩) (show w.heap.size ≤ w.heap.size + 1 + 1 from by omega) (.int .i64 size)).setCell (p := ⟨w.heap.size + 1 + 1, 1, none⟩) (show w.heap.size ≤ w.heap.size + 1 + 1 from by omega) (.slice P l.length cap)
  exact bodyPost_ret (v := .tuple #[.agg #[.int .i64 size, .slice P l.length cap], .int .i64 er]) (by simp [results, Tryz.results38, go_sem, r0, r1]) rfl ⟨⟨_, rfl, NextR.same h hxF⟩, hxF⟩
set_option maxHeartbeats 2000000 in
theorem refSet7_empty (P : Option Addr) (size cap : Nat) (l : List ByteArray) (x y : Int) (s : ByteArray) {w : World} (h : RS w P cap size l) (hs : s.toList = []) :
    Calls Tryz.prog 39 #[.agg #[.int .i64 size, .slice P l.length cap], .agg #[.int .i64 x, .int .i64 y], .string s] w fun e w' => (∃ v, e = .returned (.tuple #[v, .int .i64 1]) ∧ NextR w P w' v size l) ∧ Ext w w' := by
  have d3 : s.toList.isEmpty = true := by simpa using hs
  clear hs
  have hx0 := (((Ext.refl w).alloc (.cells #[.int .i64 size, .slice P l.length cap] 28)).alloc (.cells #[.int .i64 x, .int .i64 y] 33)).alloc (.cells #[.int .i64 0, .slice none 0 0] 28)
  have hs2 : ((w.alloc (.cells #[.int .i64 size, .slice P l.length cap] 28)).alloc (.cells #[.int .i64 x, .int .i64 y] 33)).heap.size = w.heap.size + 1 + 1 := by simp
  have hRA := ((RCell.new w (.int .i64 size) (.slice P l.length cap)).ext ((Ext.refl _).alloc (.cells #[.int .i64 x, .int .i64 y] 33))).ext ((Ext.refl _).alloc (.cells #[.int .i64 0, .slice none 0 0] 28))
  have hRB := RCell.new ((w.alloc (.cells #[.int .i64 size, .slice P l.length cap] 28)).alloc (.cells #[.int .i64 x, .int .i64 y] 33)) (.int .i64 0) (.slice none 0 0)
  rw [hs2] at hRB
  have a0 := hRA.cells.1
  have a1 := hRA.cells.2.1
  have b0 := hRB.cells.1
  have b1 := hRB.cells.2.1
  have bf0 := hRB.cells.2.2.1
  have bf1 := hRB.cells.2.2.2
  have hRB0 := hRB.set0 (.int .i64 size)
  have s1 := hRB0.cells.2.1
  have sf1 := hRB0.cells.2.2.2
  have r0 := (hRB.read (.int .i64 size) (.slice P l.length cap)).1
  have r1 := (hRB.read (.int .i64 size) (.slice P l.length cap)).2
  go_enter Tryz.func39, Tryz.ntmps39
  go_wp2
  exact bodyPost_ret (v := .tuple #[.agg #[.int .i64 size, .slice P l.length cap], .int .i64 1]) (by simp [results, Tryz.results39, go_sem, r0, r1]) rfl ⟨⟨_, rfl, NextR.same h ((((Ext.refl w).alloc _).alloc _).alloc _)⟩, (((Ext.refl w).alloc _).alloc _).alloc _⟩
set_option maxHeartbeats 2000000 in
theorem refSet7_no (P : Option Addr) (size cap : Nat) (l : List ByteArray) (x y : Int) (s : ByteArray) {w : World} (h : RS w P cap size l) (hs : s.toList ≠ []) (hp : plF l x y ≠ 0) :
    Calls Tryz.prog 39 #[.agg #[.int .i64 size, .slice P l.length cap], .agg #[.int .i64 x, .int .i64 y], .string s] w fun e w' => (∃ v, e = .returned (.tuple #[v, .int .i64 (plF l x y)]) ∧ NextR w P w' v size l) ∧ Ext w w' := by
  have d3 : s.toList.isEmpty = false := by simpa using hs
  clear hs
  have hx0 := (((Ext.refl w).alloc (.cells #[.int .i64 size, .slice P l.length cap] 28)).alloc (.cells #[.int .i64 x, .int .i64 y] 33)).alloc (.cells #[.int .i64 0, .slice none 0 0] 28)
  have hs2 : ((w.alloc (.cells #[.int .i64 size, .slice P l.length cap] 28)).alloc (.cells #[.int .i64 x, .int .i64 y] 33)).heap.size = w.heap.size + 1 + 1 := by simp
  have hRA := ((RCell.new w (.int .i64 size) (.slice P l.length cap)).ext ((Ext.refl _).alloc (.cells #[.int .i64 x, .int .i64 y] 33))).ext ((Ext.refl _).alloc (.cells #[.int .i64 0, .slice none 0 0] 28))
  have hRB := RCell.new ((w.alloc (.cells #[.int .i64 size, .slice P l.length cap] 28)).alloc (.cells #[.int .i64 x, .int .i64 y] 33)) (.int .i64 0) (.slice none 0 0)
  rw [hs2] at hRB
  have hP := fun W => refPlace7 P size cap l x y (w := W) h.le
  have e1 : (plF l x y != 0) = true := by simpa using hp
  clear hp
  generalize plF l x y = er at *
  go_enter Tryz.func39, Tryz.ntmps39
  go_wp2_with (go_at_call 57; refine (hP _).mono ?_; rintro e w1 ⟨rfl, hx1⟩; have hA := hRA.ext hx1; have a0 := hA.cells.1; have a1 := hA.cells.2.1; have hB3 := hRB.ext hx1; have q0 := hB3.cells.1; have q1 := hB3.cells.2.1; have qf0 := hB3.cells.2.2.1; have qf1 := hB3.cells.2.2.2; have hB4 := hB3.set0 (.int .i64 size); have s1 := hB4.cells.2.1; have sf1 := hB4.cells.2.2.2; have r0 := (hB3.read (.int .i64 size) (.slice P l.length cap)).1; have r1 := (hB3.read (.int .i64 size) (.slice P l.length cap)).2)
  have hxF := ((hx0.trans hx1).setCell (p := ⟨w.heap.size + 1 + 1, 0, none⟩) (show w.heap.size ≤ w.heap.size + 1 + 1 from by omega) (.int .i64 size)).setCell (p := ⟨w.heap.size + 1 + 1, 1, none⟩) (show w.heap.size ≤ w.heap.size + 1 + 1 from by omega) (.slice P l.length cap)
  exact bodyPost_ret (v := .tuple #[.agg #[.int .i64 size, .slice P l.length cap], .int .i64 er]) (by simp [results, Tryz.results39, go_sem, r0, r1]) rfl ⟨⟨_, rfl, NextR.same h hxF⟩, hxF⟩
set_option maxHeartbeats 2000000 in
theorem refDrop7_no (P : Option Addr) (size cap : Nat) (l : List ByteArray) (x y : Int) {w : World} (h : RS w P cap size l) (hp : plF l x y ≠ 0) :
    Calls Tryz.prog 40 #[.agg #[.int .i64 size, .slice P l.length cap], .agg #[.int .i64 x, .int .i64 y]] w fun e w' => (∃ v, e = .returned (.tuple #[v, .int .i64 (plF l x y)]) ∧ NextR w P w' v size l) ∧ Ext w w' := by
  have hx0 := (((Ext.refl w).alloc (.cells #[.int .i64 size, .slice P l.length cap] 28)).alloc (.cells #[.int .i64 x, .int .i64 y] 33)).alloc (.cells #[.int .i64 0, .slice none 0 0] 28)
  have hs2 : ((w.alloc (.cells #[.int .i64 size, .slice P l.length cap] 28)).alloc (.cells #[.int .i64 x, .int .i64 y] 33)).heap.size = w.heap.size + 1 + 1 := by simp
  have hRA := ((RCell.new w (.int .i64 size) (.slice P l.length cap)).ext ((Ext.refl _).alloc (.cells #[.int .i64 x, .int .i64 y] 33))).ext ((Ext.refl _).alloc (.cells #[.int .i64 0, .slice none 0 0] 28))
  have hRB := RCell.new ((w.alloc (.cells #[.int .i64 size, .slice P l.length cap] 28)).alloc (.cells #[.int .i64 x, .int .i64 y] 33)) (.int .i64 0) (.slice none 0 0)
  rw [hs2] at hRB
  have hP := fun W => refPlace7 P size cap l x y (w := W) h.le
  have e1 : (plF l x y != 0) = true := by simpa using hp
  clear hp
  generalize plF l x y = er at *
  go_enter Tryz.func40, Tryz.ntmps40
  go_wp2_with (go_at_call 57; refine (hP _).mono ?_; rintro e w1 ⟨rfl, hx1⟩; have hA := hRA.ext hx1; have a0 := hA.cells.1; have a1 := hA.cells.2.1; have hB3 := hRB.ext hx1; have q0 := hB3.cells.1; have q1 := hB3.cells.2.1; have qf0 := hB3.cells.2.2.1; have qf1 := hB3.cells.2.2.2; have hB4 := hB3.set0 (.int .i64 size); have s1 := hB4.cells.2.1; have sf1 := hB4.cells.2.2.2; have r0 := (hB3.read (.int .i64 size) (.slice P l.length cap)).1; have r1 := (hB3.read (.int .i64 size) (.slice P l.length cap)).2)
  have hxF := ((hx0.trans hx1).setCell (p := ⟨w.heap.size + 1 + 1, 0, none⟩) (show w.heap.size ≤ w.heap.size + 1 + 1 from by omega) (.int .i64 size)).setCell (p := ⟨w.heap.size + 1 + 1, 1, none⟩) (show w.heap.size ≤ w.heap.size + 1 + 1 from by omega) (.slice P l.length cap)
  exact bodyPost_ret (v := .tuple #[.agg #[.int .i64 size, .slice P l.length cap], .int .i64 er]) (by simp [results, Tryz.results40, go_sem, r0, r1]) rfl ⟨⟨_, rfl, NextR.same h hxF⟩, hxF⟩
end
section
open Go.RowKit
set_option linter.unusedVariables false
set_option linter.unusedSimpArgs false
set_option linter.unusedSectionVars false
set_option maxRecDepth 20000

set_option maxHeartbeats 2000000 in
theorem refReplace7_bad (P : Option Addr) (size cap : Nat) (l : List ByteArray) (x : Int) (p : ByteArray) {w : World} (h : RS w P cap size l) (hps : p.size ≤ 140737488355328) (hb : ¬ (ValidR p ∧ p.size = size)) :
    Calls Tryz.prog 46 #[.agg #[.int .i64 size, .slice P l.length cap], .int .i64 x, .string p] w fun e w' => (∃ v, e = .returned (.tuple #[v, .int .i64 1]) ∧ NextR w P w' v size l) ∧ Ext w w' := by
  have hx0 := ((Ext.refl w).alloc (.cells #[.int .i64 size, .slice P l.length cap] 28)).alloc (.cells #[.int .i64 0, .slice none 0 0] 28)
  have hs1 : (w.alloc (.cells #[.int .i64 size, .slice P l.length cap] 28)).heap.size = w.heap.size + 1 := by simp
  have hRA := (RCell.new w (.int .i64 size) (.slice P l.length cap)).ext ((Ext.refl _).alloc (.cells #[.int .i64 0, .slice none 0 0] 28))
  have hRB := RCell.new (w.alloc (.cells #[.int .i64 size, .slice P l.length cap] 28)) (.int .i64 0) (.slice none 0 0)
  rw [hs1] at hRB
  have hV := fun W => refValid_any p W hps
  by_cases hv : ValidR p
  · have hne : p.size ≠ size := fun e => hb ⟨hv, e⟩
    have c1 : ((p.size : Int) != (size : Int)) = true := bne_iff_ne.2 (by omega)
    rw [decide_eq_true hv] at hV
    clear hb hv hne
    go_enter Tryz.func46, Tryz.ntmps46
    go_wp2_with (go_at_call 89; (with_reducible refine (hV _).mono ?_); rintro e w1 ⟨rfl, hx1⟩; have hA := hRA.ext hx1; have a0 := hA.cells.1; have a1 := hA.cells.2.1; have hB3 := hRB.ext hx1; have q0 := hB3.cells.1; have q1 := hB3.cells.2.1; have qf0 := hB3.cells.2.2.1; have qf1 := hB3.cells.2.2.2; have hB4 := hB3.set0 (.int .i64 size); have s1 := hB4.cells.2.1; have sf1 := hB4.cells.2.2.2; have r0 := (hB3.read (.int .i64 size) (.slice P l.length cap)).1; have r1 := (hB3.read (.int .i64 size) (.slice P l.length cap)).2)
    have hxF := ((hx0.trans hx1).setCell (p := ⟨w.heap.size + 1, 0, none⟩) (show w.heap.size ≤ w.heap.size + 1 from by omega) (.int .i64 size)).setCell (p := ⟨w.heap.size + 1, 1, none⟩) (show w.heap.size ≤ w.heap.size + 1 from by omega) (.slice P l.length cap)
    exact bodyPost_ret (v := .tuple #[.agg #[.int .i64 size, .slice P l.length cap], .int .i64 1]) (by simp [results, Tryz.results46, go_sem, r0, r1]) rfl ⟨⟨_, rfl, NextR.same h hxF⟩, hxF⟩
  · rw [decide_eq_false hv] at hV
    clear hb hv
    go_enter Tryz.func46, Tryz.ntmps46
    go_wp2_with (go_at_call 89; (with_reducible refine (hV _).mono ?_); rintro e w1 ⟨rfl, hx1⟩; have hA := hRA.ext hx1; have a0 := hA.cells.1; have a1 := hA.cells.2.1; have hB3 := hRB.ext hx1; have q0 := hB3.cells.1; have q1 := hB3.cells.2.1; have qf0 := hB3.cells.2.2.1; have qf1 := hB3.cells.2.2.2; have hB4 := hB3.set0 (.int .i64 size); have s1 := hB4.cells.2.1; have sf1 := hB4.cells.2.2.2; have r0 := (hB3.read (.int .i64 size) (.slice P l.length cap)).1; have r1 := (hB3.read (.int .i64 size) (.slice P l.length cap)).2)
    have hxF := ((hx0.trans hx1).setCell (p := ⟨w.heap.size + 1, 0, none⟩) (show w.heap.size ≤ w.heap.size + 1 from by omega) (.int .i64 size)).setCell (p := ⟨w.heap.size + 1, 1, none⟩) (show w.heap.size ≤ w.heap.size + 1 from by omega) (.slice P l.length cap)
    exact bodyPost_ret (v := .tuple #[.agg #[.int .i64 size, .slice P l.length cap], .int .i64 1]) (by simp [results, Tryz.results46, go_sem, r0, r1]) rfl ⟨⟨_, rfl, NextR.same h hxF⟩, hxF⟩
set_option maxHeartbeats 2000000 in
theorem refReplace7_no (P : Option Addr) (size cap : Nat) (l : List ByteArray) (x : Int) (p : ByteArray) {w : World} (h : RS w P cap size l) (hps : p.size ≤ 140737488355328) (hv : ValidR p) (hz : p.size = size) (hi : ¬ (0 ≤ x ∧ x < l.length)) :
    Calls Tryz.prog 46 #[.agg #[.int .i64 size, .slice P l.length cap], .int .i64 x, .string p] w fun e w' => (∃ v, e = .returned (.tuple #[v, .int .i64 7]) ∧ NextR w P w' v size l) ∧ Ext w w' := by
  have hI := fun W => refIs_any P size x l.length cap W (by have := h.le; omega)
  rw [decide_eq_false hi] at hI
  have hx0 := ((Ext.refl w).alloc (.cells #[.int .i64 size, .slice P l.length cap] 28)).alloc (.cells #[.int .i64 0, .slice none 0 0] 28)
  have hs1 : (w.alloc (.cells #[.int .i64 size, .slice P l.length cap] 28)).heap.size = w.heap.size + 1 := by simp
  have hRA := (RCell.new w (.int .i64 size) (.slice P l.length cap)).ext ((Ext.refl _).alloc (.cells #[.int .i64 0, .slice none 0 0] 28))
  have hRB := RCell.new (w.alloc (.cells #[.int .i64 size, .slice P l.length cap] 28)) (.int .i64 0) (.slice none 0 0)
  rw [hs1] at hRB
  have hV := fun W => refValid_any p W hps
  have c1 : ((p.size : Int) != (size : Int)) = false := by simp [hz]
  rw [decide_eq_true hv] at hV
  clear hv hz hi
  go_enter Tryz.func46, Tryz.ntmps46
  go_wp2_with (first | (go_at_call 89; (with_reducible refine (hV _).mono ?_); rintro e w1 ⟨rfl, hx1⟩; have hA := hRA.ext hx1; have a0 := hA.cells.1; have a1 := hA.cells.2.1; have hB3 := hRB.ext hx1; have q0 := hB3.cells.1; have q1 := hB3.cells.2.1; have qf0 := hB3.cells.2.2.1; have qf1 := hB3.cells.2.2.2; have hB4 := hB3.set0 (.int .i64 size); have s1 := hB4.cells.2.1; have sf1 := hB4.cells.2.2.2; have r0 := (hB3.read (.int .i64 size) (.slice P l.length cap)).1; have r1 := (hB3.read (.int .i64 size) (.slice P l.length cap)).2) | (go_at_call 62; (with_reducible refine (hI _).mono ?_); rintro e w2 ⟨rfl, hx2⟩; have hx12 := hx1.trans hx2; have hA := hRA.ext hx12; have a0 := hA.cells.1; have a1 := hA.cells.2.1; have hB3 := hRB.ext hx12; have q0 := hB3.cells.1; have q1 := hB3.cells.2.1; have qf0 := hB3.cells.2.2.1; have qf1 := hB3.cells.2.2.2; have hB4 := hB3.set0 (.int .i64 size); have s1 := hB4.cells.2.1; have sf1 := hB4.cells.2.2.2; have r0 := (hB3.read (.int .i64 size) (.slice P l.length cap)).1; have r1 := (hB3.read (.int .i64 size) (.slice P l.length cap)).2))
  have hxF := ((hx0.trans hx12).setCell (p := ⟨w.heap.size + 1, 0, none⟩) (show w.heap.size ≤ w.heap.size + 1 from by omega) (.int .i64 size)).setCell (p := ⟨w.heap.size + 1, 1, none⟩) (show w.heap.size ≤ w.heap.size + 1 from by omega) (.slice P l.length cap)
  exact bodyPost_ret (v := .tuple #[.agg #[.int .i64 size, .slice P l.length cap], .int .i64 7]) (by simp [results, Tryz.results46, go_sem, r0, r1]) rfl ⟨⟨_, rfl, NextR.same h hxF⟩, hxF⟩
set_option maxHeartbeats 2000000 in
theorem refReplace7_at (P : Option Addr) (size cap q : Nat) (l : List ByteArray) (p : ByteArray) {w : World} (h : RS w P cap size l) (hps : p.size ≤ 140737488355328) (hv : ValidR p) (hz : p.size = size) (hq : q < l.length) :
    Calls Tryz.prog 46 #[.agg #[.int .i64 size, .slice P l.length cap], .int .i64 q, .string p] w fun e w' => (∃ v, e = .returned (.tuple #[v, .int .i64 0]) ∧ NextR w P w' v size (l.set q p)) ∧ Ext w w' := by
  have hI := fun W => refIs_any P size q l.length cap W (by have := h.le; omega)
  rw [decide_eq_true ⟨by omega, by omega⟩] at hI
  have hW := fun W hW => refWith7 P size cap q l (p, 0) (w := W) hW hq (fun _ => ⟨hv, hz⟩)
  rw [show aft l q (p, 0) = l.set q p from if_pos rfl] at hW
  simp only at hW
  have hx0 := ((Ext.refl w).alloc (.cells #[.int .i64 size, .slice P l.length cap] 28)).alloc (.cells #[.int .i64 0, .slice none 0 0] 28)
  have hs1 : (w.alloc (.cells #[.int .i64 size, .slice P l.length cap] 28)).heap.size = w.heap.size + 1 := by simp
  have hRA := (RCell.new w (.int .i64 size) (.slice P l.length cap)).ext ((Ext.refl _).alloc (.cells #[.int .i64 0, .slice none 0 0] 28))
  have hRB := RCell.new (w.alloc (.cells #[.int .i64 size, .slice P l.length cap] 28)) (.int .i64 0) (.slice none 0 0)
  rw [hs1] at hRB
  have hV := fun W => refValid_any p W hps
  obtain ⟨b, off, hPb, hbw⟩ := h.known
  have HPB := Lib.hid (And.intro hPb hbw)
  clear hPb hbw
  have h0 := h.ext hx0
  have c1 : ((p.size : Int) != (size : Int)) = false := by simp [hz]
  rw [decide_eq_true hv] at hV
  clear hv hz hs1
  generalize l.set q p = L at *
  go_enter Tryz.func46, Tryz.ntmps46
  go_wp2_with (first | (go_at_call 89; (with_reducible refine (hV _).mono ?_); rintro e w1 ⟨rfl, hx1⟩; have hA := hRA.ext hx1; have a0 := hA.cells.1; have a1 := hA.cells.2.1; have hB3 := hRB.ext hx1; have q0 := hB3.cells.1; have q1 := hB3.cells.2.1; have qf0 := hB3.cells.2.2.1; have qf1 := hB3.cells.2.2.2; have hB4 := hB3.set0 (.int .i64 size); have s1 := hB4.cells.2.1; have sf1 := hB4.cells.2.2.2; have r0 := (hB3.read (.int .i64 size) (.slice P l.length cap)).1; have r1 := (hB3.read (.int .i64 size) (.slice P l.length cap)).2) | (go_at_call 62; (with_reducible refine (hI _).mono ?_); rintro e w2 ⟨rfl, hx2⟩; have hx12 := hx1.trans hx2; have hA := hRA.ext hx12; have a0 := hA.cells.1; have a1 := hA.cells.2.1; have hB3 := hRB.ext hx12; have q0 := hB3.cells.1; have q1 := hB3.cells.2.1; have qf0 := hB3.cells.2.2.1; have qf1 := hB3.cells.2.2.2; have hB4 := hB3.set0 (.int .i64 size); have s1 := hB4.cells.2.1; have sf1 := hB4.cells.2.2.2; have r0 := (hB3.read (.int .i64 size) (.slice P l.length cap)).1; have r1 := (hB3.read (.int .i64 size) (.slice P l.length cap)).2; have h2 := h0.ext hx12; have hB2 := hB3; clear q0 q1 qf0 qf1 s1 sf1 r0 r1 hB3 hB4) | (go_at_call 84; (with_reducible refine (hW _ h2).mono ?_); rintro e w3 ⟨⟨v3, rfl, hn⟩, hx3⟩; obtain ⟨P', c', rfl, hrs, hor⟩ := hn; have hB5 := hB2.ext hx3; have q0 := hB5.cells.1; have q1 := hB5.cells.2.1; have qf0 := hB5.cells.2.2.1; have qf1 := hB5.cells.2.2.2; have hB6 := hB5.set0 (.int .i64 size); have s1 := hB6.cells.2.1; have sf1 := hB6.cells.2.2.2; have r0 := (hB5.read (.int .i64 size) (.slice P' L.length c')).1; have r1 := (hB5.read (.int .i64 size) (.slice P' L.length c')).2))
  have hsz2 := (hx0.trans hx12).size
  have hblt := hB2.lt
  have hne : ∀ b' off' m, P' = some ⟨b', off', m⟩ → b' ≠ w.heap.size + 1 := by
    intro b' off' m e
    rcases hor with h3 | ⟨g, h3, h4⟩
    · rw [e, HPB.out.1] at h3; injection h3 with h3; injection h3 with h3; have := HPB.out.2; omega
    · rw [e] at h3; injection h3 with h3; injection h3 with h3; omega
  have hrs := (hrs.upd (Upd.setCell w3 (w.heap.size + 1) 0 (.int .i64 size)) hne).upd (Upd.setCell _ (w.heap.size + 1) 1 (.slice P' L.length c')) hne
  have hxF := ((hx0.trans (hx12.trans hx3)).setCell (p := ⟨w.heap.size + 1, 0, none⟩) (show w.heap.size ≤ w.heap.size + 1 from by omega) (.int .i64 size)).setCell (p := ⟨w.heap.size + 1, 1, none⟩) (show w.heap.size ≤ w.heap.size + 1 from by omega) (.slice P' L.length c')
  exact bodyPost_ret (v := .tuple #[.agg #[.int .i64 size, .slice P' L.length c'], .int .i64 0]) (by simp [results, Tryz.results46, go_sem, r0, r1]) rfl ⟨⟨_, rfl, P', c', rfl, hrs, hor.imp id (fun ⟨g, e, h4⟩ => ⟨g, e, Nat.le_trans hsz2 h4⟩)⟩, hxF⟩
end
end Go.Proofs.YtnileonlabpbpaaGreat
