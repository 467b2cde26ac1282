/- SpV; SpW; SpX; SpY; SpZ; SpAA; SpAF (merged by group.py) -/
import Derived.Test.YtnileonlabpbpaaGreatQ16
import Derived.Deep.WholeRow
namespace Go.Proofs.YtnileonlabpbpaaGreat
section
open Go.RowKit
set_option linter.unusedVariables false
set_option linter.unusedSimpArgs false
set_option linter.unusedSectionVars false
set_option maxRecDepth 20000

set_option maxHeartbeats 2000000 in
theorem refGet7_no (P : Option Addr) (size cap : Nat) (l : List ByteArray) (x y : Int) {w : World} (hle : l.length ≤ 200) (hp : plF l x y ≠ 0) :
    Calls Tryz.prog 16 #[.agg #[.int .i64 size, .slice P l.length cap], .agg #[.int .i64 x, .int .i64 y]] w fun e w' => e = .returned (.tuple #[.string ⟨#[]⟩, .int .i64 (plF l x y)]) ∧ Ext w w' := by
  have hx0 := ((Ext.refl w).alloc (.cells #[.int .i64 size, .slice P l.length cap] 28)).alloc (.cells #[.int .i64 x, .int .i64 y] 33)
  have hP := fun W => refPlace7 P size cap l x y (w := W) hle
  have e1 : (plF l x y != 0) = true := by simpa using hp
  clear hp
  generalize plF l x y = er at *
  go_enter Tryz.func16, Tryz.ntmps16
  go_wp2_with (go_at_call 57; (with_reducible refine (hP _).mono ?_); rintro e w1 ⟨rfl, hx1⟩)
  go_ret2
  exact ⟨rfl, hx0.trans hx1⟩
set_option maxHeartbeats 2000000 in
theorem refGet7_at (P : Option Addr) (size cap q : Nat) (l : List ByteArray) (y : Int) (r : ByteArray × Int) {w : World} (h : RS w P cap size l) (hq : q < l.length) (hy : 1 ≤ y ∧ y ≤ 200)
    (hc : ∀ W, Calls Tryz.prog 58 #[.string (nthB l q), .int .i64 y] W fun e w' => e = two2 r ∧ Ext W w') :
    Calls Tryz.prog 16 #[.agg #[.int .i64 size, .slice P l.length cap], .agg #[.int .i64 q, .int .i64 y]] w fun e w' => e = two2 r ∧ Ext w w' := by
  have c1 : (q : Int) < l.length := by omega
  have c1n : q < l.length := hq
  have hP := fun W => refPlace7 P size cap l q y (w := W) h.le
  rw [show plF l (q : Int) y = 0 from by unfold plF; rw [if_pos ⟨by omega, by omega⟩, if_pos hy]] at hP
  obtain ⟨b, off, rfl, hcell⟩ := h.cell q hq
  have hx0 := ((Ext.refl w).alloc (.cells #[.int .i64 size, .slice (some ⟨b, off, none⟩) l.length cap] 28)).alloc (.cells #[.int .i64 q, .int .i64 y] 33)
  have hs1 : (w.alloc (.cells #[.int .i64 size, .slice (some ⟨b, off, none⟩) l.length cap] 28)).heap.size = w.heap.size + 1 := by simp
  have hRA := (RCell.new w (.int .i64 size) (.slice (some ⟨b, off, none⟩) l.length cap)).ext ((Ext.refl _).alloc (.cells #[.int .i64 q, .int .i64 y] 33))
  have hbk := World.alloc_heap_new (w.alloc (.cells #[.int .i64 size, .slice (some ⟨b, off, none⟩) l.length cap] 28)) (.cells #[.int .i64 q, .int .i64 y] 33)
  rw [hs1] at hbk
  have hk0 := (show World.cell? _ ⟨w.heap.size + 1, 0, none⟩ = some (.int .i64 q) from by unfold World.cell?; rw [hbk]; rfl)
  have hk1 := (show World.cell? _ ⟨w.heap.size + 1, 1, none⟩ = some (.int .i64 y) from by unfold World.cell?; rw [hbk]; rfl)
  clear hbk hs1
  have hcell := hx0.cell hcell
  unfold two2 at hc ⊢
  have hc2 := fun {W : World} => hc W
  generalize r.1 = rp at *
  generalize r.2 = re at *
  clear h hy hq
  go_enter Tryz.func16, Tryz.ntmps16
  go_wp2_with (go_at_call 57; (with_reducible refine (hP _).mono ?_); rintro e w1 ⟨rfl, hx1⟩; have hA := hRA.ext hx1; have a0 := hA.cells.1; have a1 := hA.cells.2.1; have k0 := hx1.cell hk0; have k1 := hx1.cell hk1; have cc := hx1.cell hcell)
  go_region_held3 (fun w' => w'.cell? ⟨w.heap.size, 1, none⟩ = some (.slice (some ⟨b, off, none⟩) l.length cap) ∧ w'.cell? ⟨w.heap.size + 1, 0, none⟩ = some (.int .i64 q) ∧ w'.cell? ⟨w.heap.size + 1, 1, none⟩ = some (.int .i64 y) ∧ w'.cell? ⟨b, off + q, none⟩ = some (.string (nthB l q))) (first | go_keep | (refine ⟨Ext.cell ?_ a1, Ext.cell ?_ k0, Ext.cell ?_ k1, Ext.cell ?_ cc⟩ <;> (repeat (first | exact Ext.refl _ | assumption | refine Ext.trans ?_ hx2 | refine Ext.drew ?_ | refine Ext.drewN ?_ _)))) (first | (go_at_call 58; (with_reducible refine hc2.mono ?_); rintro e w2 ⟨rfl, hx2⟩) | fail)
  go_wp2
  go_ret2
  exact ⟨rfl, hx0.trans (hx1.trans (((Ext.refl w1).drew).trans hx2))⟩
end
section
open Go.RowKit
set_option linter.unusedVariables false
set_option linter.unusedSimpArgs false
set_option linter.unusedSectionVars false
set_option maxRecDepth 20000

theorem refHolds_page (p : ByteArray) (b : Nat) (hv : ValidR p) (hb0 : 0 < b) (hb : b ≤ 140737488355328) (A : Option Addr) (cap : Nat) {W : World} (hs : SlC W A (cnt p) (cel p)) :
    Calls Tryz.prog 63 #[.int .i64 p.size, .slice A (cnt p) cap, .int .i64 b] W fun e w' => e = .returned (.bool (holdsB p b)) ∧ W = w' :=
  refHolds_any p.size A cap (cnt p) (cel p) b W (cnt_le hv) hs (cel_good hv) (cel_size hv) (by have := hv.1.1; simp [sizeB] at this; omega) hb0 hb
theorem FindR.here {l : List ByteArray} {near : Nat} {b : Int} {r : Int × Int} (hf : FindR l near b r) {k : Nat} (hk : k < l.length) (hno : ∀ j, j < k → holdsB (nthB l ((near + j) % l.length)) b = false) (hB : holdsB (nthB l ((near + k) % l.length)) b = true) : r = ((((near + k) % l.length : Nat) : Int), 0) := by
  rcases hf with ⟨i, h1, h2, h3, h4⟩ | ⟨h1, h2⟩
  · rcases Nat.lt_trichotomy i k with h | h | h
    · rw [hno i h] at h2; cases h2
    · subst h; exact h4
    · rw [h3 k h] at hB; cases hB
  · rw [h1 k hk] at hB; cases hB
theorem FindR.none {l : List ByteArray} {near : Nat} {b : Int} {r : Int × Int} (hf : FindR l near b r) (hno : ∀ j, j < l.length → holdsB (nthB l ((near + j) % l.length)) b = false) : r = (0, 13) := by
  rcases hf with ⟨i, h1, h2, h3, h4⟩ | ⟨h1, h2⟩
  · rw [hno i h1] at h2; cases h2
  · exact h2
set_option maxHeartbeats 4000000 in
theorem refFind7 (P : Option Addr) (size cap near b : Nat) (l : List ByteArray) (r : Int × Int) {w : World} (h : RS w P cap size l) (hn : near < l.length) (hb0 : 1 ≤ b) (hb : b ≤ 140737488355328) (hf : FindR l near b r) :
    Calls Tryz.prog 20 #[.agg #[.int .i64 size, .slice P l.length cap], .int .i64 near, .int .i64 b] w fun e w' => e = .returned (.tuple #[.int .i64 r.1, .int .i64 r.2]) ∧ Ext w w' := by
  have hle := h.le
  obtain ⟨b0, off0, rfl, _⟩ := h.known
  have hI := fun W => refIs_any (some ⟨b0, off0, none⟩) size near l.length cap W (by omega)
  rw [decide_eq_true ⟨by omega, by omega⟩] at hI
  have c0 : ¬ (b : Int) < 1 := by omega
  have c4 : ¬ (l.length : Int) = 0 := by omega
  have c5 : ((l.length : Int) == 0) = false := by simpa using c4
  have hx0 := (Ext.refl w).alloc (.cells #[.int .i64 size, .slice (some ⟨b0, off0, none⟩) l.length cap] 28)
  have hRA := RCell.new w (.int .i64 size) (.slice (some ⟨b0, off0, none⟩) l.length cap)
  have hLE := Lib.hid hle
  have hNE := Lib.hid (And.intro hn (And.intro hb0 hb))
  clear hle hn
  go_enter Tryz.func20, Tryz.ntmps20
  go_wp2_with (go_at_call 62; (with_reducible refine (hI _).mono ?_); rintro e w1 ⟨rfl, hx1⟩; have hA := hRA.ext hx1; have a0 := hA.cells.1; have a1 := hA.cells.2.1)
  go_loopw [8, 9] (fun i _ wr => ∃ k : Nat, k ≤ l.length ∧ i = .int .i64 k ∧ (∀ j, j < k → holdsB (nthB l ((near + j) % l.length)) b = false) ∧ Ext w1 wr) (fun i _ _ => l.length - (intOf i).toNat)
  case atStart => exact ⟨0, by omega, rfl, by omega, Ext.refl _⟩
  case round =>
    obtain ⟨k, hk, rfl, hno, hx⟩ := hrel
    have hA2 := hA.ext hx
    have a0 := hA2.cells.1
    have a1 := hA2.cells.2.1
    by_cases hlt : k < l.length
    · have hq : (near + k) % l.length < l.length := Nat.mod_lt _ (by omega)
      have k1 : IntKind.i64.wrap ((near : Int) + k) = (near : Int) + k := IntWalk.i64_in _ ⟨by omega, by have := hLE.out; have := hNE.out.1; omega⟩
      have k2 : ((near : Int) + k).tmod (l.length : Int) = (((near + k) % l.length : Nat) : Int) := by rw [Int.tmod_eq_emod_of_nonneg (by omega), Int.natCast_emod, Int.natCast_add]
      have k3 : IntKind.i64.wrap ((((near + k) % l.length : Nat) : Int)) = (((near + k) % l.length : Nat) : Int) := IntWalk.i64_in _ ⟨by omega, by have := hLE.out; omega⟩
      have HNO := Lib.hid hno
      obtain ⟨hv, hz⟩ := h.good _ hq
      obtain ⟨bb, off, hPe, hcell⟩ := h.cell _ hq
      injection hPe with hPe
      injection hPe with hp1 hp2
      subst hp1 hp2
      have hcell := (hx0.trans (hx1.trans hx)).cell hcell
      have ck : (k : Int) < l.length := by omega
      have cq : (((near + k) % l.length : Nat) : Int) < l.length := by omega
      have hC : ∀ {W : World}, Calls Tryz.prog 64 #[.string (nthB l ((near + k) % l.length))] W fun e w' => ∃ A cap, e = .returned (.slice A (cnt (nthB l ((near + k) % l.length))) cap) ∧ SlC w' A (cnt (nthB l ((near + k) % l.length))) (cel (nthB l ((near + k) % l.length))) ∧ Ext W w' := fun {W} =>
        (refCellsOf_any _ W hv).mono (by
          rintro e w2 ⟨v, rfl, hown, hx2⟩
          obtain ⟨A, cap, rfl, hs⟩ := slC_of_row hown
          exact ⟨A, cap, rfl, hs, hx2⟩)
      have hH := fun (A : Option Addr) (cap : Nat) {W : World} (hs : SlC W A (cnt (nthB l ((near + k) % l.length))) (cel (nthB l ((near + k) % l.length)))) => refHolds_page (nthB l ((near + k) % l.length)) b hv (by have := hNE.out.2.1; omega) hNE.out.2.2 A cap hs
      rw [hz] at hH
      have hnx : ∀ j, j < k + 1 → j = k ∨ j < k := fun j hj => by omega
      have HB : ∃ B, holdsB (nthB l ((near + k) % l.length)) b = B := ⟨_, rfl⟩
      obtain ⟨B, hB⟩ := HB
      rw [hB] at hH
      have HBB := Lib.hid hB
      clear hB hno hnx hv hz
      generalize cnt (nthB l ((near + k) % l.length)) = cn at *
      generalize cel (nthB l ((near + k) % l.length)) = cf at *
      generalize hQ : (near + k) % l.length = q at *
      have HQ := Lib.hid hQ
      clear hQ
      go_wp2
      go_region_held3 (fun w' => w'.cell? ⟨w.heap.size, 0, none⟩ = some (.int .i64 size) ∧ w'.cell? ⟨w.heap.size, 1, none⟩ = some (.slice (some ⟨b0, off0, none⟩) l.length cap) ∧ w'.cell? ⟨b0, off0 + q, none⟩ = some (.string (nthB l q))) (first | go_keep | (refine ⟨Ext.cell ?_ a0, Ext.cell ?_ a1, Ext.cell ?_ hcell⟩ <;> (repeat (first | exact Ext.refl _ | assumption | refine Ext.trans ?_ hx3 | refine Ext.drew ?_ | refine Ext.drewN ?_ _))))
        (first
          | (go_at_call 64; (with_reducible refine hC.mono ?_); rintro e w3 ⟨A3, c3, rfl, hs3, hx3⟩)
          | (go_at_call 63
             (with_reducible refine (hH A3 c3 (hs3.ext ?_)).mono ?_)
             · (repeat (first | exact Ext.refl _ | assumption | refine Ext.drew ?_ | refine Ext.drewN ?_ _))
             rintro e w4 ⟨rfl, rfl⟩)
          | fail)
      have hxr := hx.trans (((Ext.refl wr).drew).trans hx3)
      cases B with
      | true =>
        have hr := FindR.here hf hlt HNO.out (by rw [HQ.out]; exact HBB.out)
        rw [HQ.out] at hr
        subst hr
        go_wp2
        go_ret2
        exact ⟨rfl, hx0.trans (hx1.trans hxr)⟩
      | false =>
        have HN := Lib.hid (show ∀ j, j < k + 1 → holdsB (nthB l ((near + j) % l.length)) b = false from fun j hj => by
          by_cases e : j = k
          · subst e; rw [HQ.out]; exact HBB.out
          · exact HNO.out j (by omega))
        have d1 : IntKind.i64.wrap ((k : Int) + 1) = (k : Int) + 1 := IntWalk.i64_in _ ⟨by omega, by have := hLE.out; omega⟩
        go_wp2
        go_roundw
        case rel => have := hLE.out; exact ⟨k + 1, by omega, by go_num, HN.out, hxr⟩
        case measure => have := hLE.out; simp [intOf]; omega
    · obtain rfl : k = l.length := by omega
      have hr := FindR.none hf hno
      subst hr
      clear hno hf
      go_wp2
      go_ret2
      exact ⟨rfl, hx0.trans (hx1.trans hx)⟩
end
section
open Go.RowKit
set_option linter.unusedVariables false
set_option linter.unusedSimpArgs false
set_option linter.unusedSectionVars false
set_option maxRecDepth 20000

/-- a box of two cells -/
structure TCell (t : TypeId) (w : World) (R : Nat) (x y : Value) : Prop where
  heap : w.heap[R]? = some (.cells #[x, y] t (0, 0))
section
variable {t : TypeId} {w w' : World} {R : Nat} {x y : Value}
theorem TCell.new (t : TypeId) (w : World) (x y : Value) : TCell t (w.alloc (.cells #[x, y] t)) w.heap.size x y := ⟨World.alloc_heap_new w _⟩
theorem TCell.ext (h : TCell t w R x y) (hx : Ext w w') : TCell t w' R x y := ⟨hx.heap h.heap⟩
theorem TCell.lt (h : TCell t w R x y) : R < w.heap.size := (Array.getElem?_eq_some_iff.1 h.heap).1
theorem TCell.cells (h : TCell t w R x y) : w.cell? ⟨R, 0, none⟩ = some x ∧ w.cell? ⟨R, 1, none⟩ = some y ∧ w.frozen? ⟨R, 0, none⟩ = false ∧ w.frozen? ⟨R, 1, none⟩ = false :=
  ⟨by simp [World.cell?, h.heap], by simp [World.cell?, h.heap], by simp [World.frozen?, h.heap], by simp [World.frozen?, h.heap]⟩
theorem TCell.set0 (h : TCell t w R x y) (u : Value) : TCell t (w.setCell ⟨R, 0, none⟩ u) R u y := by
  refine ⟨?_⟩
  rw [heap_setCell_same w R 0 _ _ _ h.heap]
  rfl
theorem TCell.set1 (h : TCell t w R x y) (u : Value) : TCell t (w.setCell ⟨R, 1, none⟩ u) R x u := by
  refine ⟨?_⟩
  rw [heap_setCell_same w R 1 _ _ _ h.heap]
  rfl
theorem TCell.read (h : TCell t w R x y) (u v : Value) : (w.setCell ⟨R, 0, none⟩ u).cell? ⟨R, 0, none⟩ = some u ∧ ((w.setCell ⟨R, 0, none⟩ u).setCell ⟨R, 1, none⟩ v).cell? ⟨R, 1, none⟩ = some v :=
  ⟨(h.set0 u).cells.1, ((h.set0 u).set1 v).cells.2.1⟩
theorem TCell.far (h : TCell t w R x y) {p : Addr} (hp : R ≠ p.block) (u : Value) : TCell t (w.setCell p u) R x y := ⟨(Below.heap_setCell w p u R hp).trans h.heap⟩
end
set_option maxHeartbeats 2000000 in
theorem refPut7_empty (P : Option Addr) (size cap : Nat) (l : List ByteArray) (x : Int) (s : ByteArray) {w : World} (h : RS w P cap size l) (hs : s.toList = []) :
    Calls Tryz.prog 37 #[.agg #[.int .i64 size, .slice P l.length cap], .int .i64 x, .string s] w fun e w' => (∃ v, e = .returned (.tuple #[v, .agg #[.int .i64 0, .int .i64 0], .int .i64 1]) ∧ NextR w P w' v size l) ∧ Ext w w' := by
  have d3 : s.toList.isEmpty = true := by simpa using hs
  clear hs
  have hs1 : (w.alloc (.cells #[.int .i64 size, .slice P l.length cap] 28)).heap.size = w.heap.size + 1 := by simp
  have hs2 : ((w.alloc (.cells #[.int .i64 size, .slice P l.length cap] 28)).alloc (.cells #[.int .i64 0, .slice none 0 0] 28)).heap.size = w.heap.size + 1 + 1 := by simp
  have hA := ((TCell.new 28 w (.int .i64 size) (.slice P l.length cap)).ext ((Ext.refl _).alloc (.cells #[.int .i64 0, .slice none 0 0] 28))).ext ((Ext.refl _).alloc (.cells #[.int .i64 0, .int .i64 0] 33))
  have hB := (TCell.new 28 (w.alloc (.cells #[.int .i64 size, .slice P l.length cap] 28)) (.int .i64 0) (.slice none 0 0)).ext ((Ext.refl _).alloc (.cells #[.int .i64 0, .int .i64 0] 33))
  have hC := TCell.new 33 ((w.alloc (.cells #[.int .i64 size, .slice P l.length cap] 28)).alloc (.cells #[.int .i64 0, .slice none 0 0] 28)) (.int .i64 0) (.int .i64 0)
  rw [hs1] at hB
  rw [hs2] at hC
  have a0 := hA.cells.1
  have a1 := hA.cells.2.1
  have b0 := hB.cells.1
  have b1 := hB.cells.2.1
  have bf0 := hB.cells.2.2.1
  have bf1 := hB.cells.2.2.2
  go_enter Tryz.func37, Tryz.ntmps37
  go_wp2
  have hBx := (TCell.new 28 (w.alloc (.cells #[.int .i64 size, .slice P l.length cap] 28)) (.int .i64 size) (.slice P l.length cap)).ext ((Ext.refl _).alloc (.cells #[.int .i64 0, .int .i64 0] 33))
  have hCx := TCell.new 33 ((w.alloc (.cells #[.int .i64 size, .slice P l.length cap] 28)).alloc (.cells #[.int .i64 size, .slice P l.length cap] 28)) (.int .i64 0) (.int .i64 0)
  rw [hs1] at hBx
  rw [show ((w.alloc (.cells #[.int .i64 size, .slice P l.length cap] 28)).alloc (.cells #[.int .i64 size, .slice P l.length cap] 28)).heap.size = w.heap.size + 1 + 1 from by simp] at hCx
  have r0 := hBx.cells.1
  have r1 := hBx.cells.2.1
  have r2 := hCx.cells.1
  have r3 := hCx.cells.2.1
  have hxF : Ext w _ := (((Ext.refl w).alloc (.cells #[.int .i64 size, .slice P l.length cap] 28)).alloc (.cells #[.int .i64 size, .slice P l.length cap] 28)).alloc (.cells #[.int .i64 0, .int .i64 0] 33)
  exact bodyPost_ret (v := .tuple #[.agg #[.int .i64 size, .slice P l.length cap], .agg #[.int .i64 0, .int .i64 0], .int .i64 1]) (by simp [results, Tryz.results37, go_sem, r0, r1, r2, r3]) rfl ⟨⟨_, rfl, NextR.same h hxF⟩, hxF⟩
set_option maxHeartbeats 2000000 in
theorem refPut7_no (P : Option Addr) (size cap : Nat) (l : List ByteArray) (x n er : Int) (s : ByteArray) {w : World} (h : RS w P cap size l) (hs : s.toList ≠ []) (he : er ≠ 0)
    (hF : ∀ W, RS W P cap size l → Calls Tryz.prog 20 #[.agg #[.int .i64 size, .slice P l.length cap], .int .i64 x, .int .i64 s.size] W fun e w' => e = .returned (.tuple #[.int .i64 n, .int .i64 er]) ∧ Ext W w') :
    Calls Tryz.prog 37 #[.agg #[.int .i64 size, .slice P l.length cap], .int .i64 x, .string s] w fun e w' => (∃ v, e = .returned (.tuple #[v, .agg #[.int .i64 0, .int .i64 0], .int .i64 er]) ∧ NextR w P w' v size l) ∧ Ext w w' := by
  have d3 : s.toList.isEmpty = false := by simpa using hs
  have e1 : (er != 0) = true := by simpa using he
  clear hs he
  have hs1 : (w.alloc (.cells #[.int .i64 size, .slice P l.length cap] 28)).heap.size = w.heap.size + 1 := by simp
  have hs2 : ((w.alloc (.cells #[.int .i64 size, .slice P l.length cap] 28)).alloc (.cells #[.int .i64 0, .slice none 0 0] 28)).heap.size = w.heap.size + 1 + 1 := by simp
  have hA := ((TCell.new 28 w (.int .i64 size) (.slice P l.length cap)).ext ((Ext.refl _).alloc (.cells #[.int .i64 0, .slice none 0 0] 28))).ext ((Ext.refl _).alloc (.cells #[.int .i64 0, .int .i64 0] 33))
  have hB := (TCell.new 28 (w.alloc (.cells #[.int .i64 size, .slice P l.length cap] 28)) (.int .i64 0) (.slice none 0 0)).ext ((Ext.refl _).alloc (.cells #[.int .i64 0, .int .i64 0] 33))
  have hC := TCell.new 33 ((w.alloc (.cells #[.int .i64 size, .slice P l.length cap] 28)).alloc (.cells #[.int .i64 0, .slice none 0 0] 28)) (.int .i64 0) (.int .i64 0)
  rw [hs1] at hB
  rw [hs2] at hC
  have hx0 := (((Ext.refl w).alloc (.cells #[.int .i64 size, .slice P l.length cap] 28)).alloc (.cells #[.int .i64 0, .slice none 0 0] 28)).alloc (.cells #[.int .i64 0, .int .i64 0] 33)
  have hF1 := hF _ (h.ext hx0)
  have hcb : w.heap.size + 1 + 1 ≠ w.heap.size + 1 := by omega
  have hbc : w.heap.size + 1 ≠ w.heap.size + 1 + 1 := by omega
  clear hs1 hs2 hF
  go_enter Tryz.func37, Tryz.ntmps37
  go_wp2_with (go_at_call 20; refine hF1.mono ?_; rintro e w1 ⟨rfl, hx1⟩; have hA1 := hA.ext hx1; have a0 := hA1.cells.1; have a1 := hA1.cells.2.1; have hB1 := hB.ext hx1; have q0 := hB1.cells.1; have q1 := hB1.cells.2.1; have qf0 := hB1.cells.2.2.1; have qf1 := hB1.cells.2.2.2; have hB2 := hB1.set0 (.int .i64 size); have s1 := hB2.cells.2.1; have sf1 := hB2.cells.2.2.2; have hB3 := hB2.set1 (.slice P l.length cap); have hC1 := ((hC.ext hx1).far (p := ⟨w.heap.size + 1, 0, none⟩) hcb (.int .i64 size)).far (p := ⟨w.heap.size + 1, 1, none⟩) hcb (.slice P l.length cap); have u0 := hC1.cells.1; have u1 := hC1.cells.2.1; have uf0 := hC1.cells.2.2.1; have uf1 := hC1.cells.2.2.2; have hC2 := hC1.set0 (.int .i64 0); have v1 := hC2.cells.2.1; have vf1 := hC2.cells.2.2.2; have hB5 := (hB3.far (p := ⟨w.heap.size + 1 + 1, 0, none⟩) hbc (.int .i64 0)).far (p := ⟨w.heap.size + 1 + 1, 1, none⟩) hbc (.int .i64 0); have r0 := hB5.cells.1; have r1 := hB5.cells.2.1; have hC3 := hC2.set1 (.int .i64 0); have r2 := hC3.cells.1; have r3 := hC3.cells.2.1)
  have hxF := ((((hx0.trans hx1).setCell (p := ⟨w.heap.size + 1, 0, none⟩) (show w.heap.size ≤ w.heap.size + 1 from by omega) (.int .i64 size)).setCell (p := ⟨w.heap.size + 1, 1, none⟩) (show w.heap.size ≤ w.heap.size + 1 from by omega) (.slice P l.length cap)).setCell (p := ⟨w.heap.size + 1 + 1, 0, none⟩) (show w.heap.size ≤ w.heap.size + 1 + 1 from by omega) (.int .i64 0)).setCell (p := ⟨w.heap.size + 1 + 1, 1, none⟩) (show w.heap.size ≤ w.heap.size + 1 + 1 from by omega) (.int .i64 0)
  exact bodyPost_ret (v := .tuple #[.agg #[.int .i64 size, .slice P l.length cap], .agg #[.int .i64 0, .int .i64 0], .int .i64 er]) (by simp [results, Tryz.results37, go_sem, r0, r1, r2, r3]) rfl ⟨⟨_, rfl, NextR.same h hxF⟩, hxF⟩
end
section
open Go.RowKit
set_option linter.unusedVariables false
set_option linter.unusedSimpArgs false
set_option linter.unusedSectionVars false
set_option maxRecDepth 20000

set_option maxHeartbeats 4000000 in
theorem refPut7_at (P : Option Addr) (size cap q : Nat) (l : List ByteArray) (x line : Int) (s pg : ByteArray) {w : World} (h : RS w P cap size l) (hs : s.toList ≠ []) (hq : q < l.length) (hpg : ValidR pg ∧ pg.size = size)
    (hF : ∀ W, RS W P cap size l → Calls Tryz.prog 20 #[.agg #[.int .i64 size, .slice P l.length cap], .int .i64 x, .int .i64 s.size] W fun e w' => e = .returned (.tuple #[.int .i64 q, .int .i64 0]) ∧ Ext W w')
    (hp : ∀ W, Calls Tryz.prog 81 #[.string (nthB l q), .string s] W fun e w' => e = .returned (.tuple #[.string pg, .int .i64 line, .int .i64 0]) ∧ Ext W w') :
    Calls Tryz.prog 37 #[.agg #[.int .i64 size, .slice P l.length cap], .int .i64 x, .string s] w fun e w' => (∃ v, e = .returned (.tuple #[v, .agg #[.int .i64 q, .int .i64 line], .int .i64 0]) ∧ NextR w P w' v size (l.set q pg)) ∧ Ext w w' := by
  have d3 : s.toList.isEmpty = false := by simpa using hs
  have hG := h.goodL.set q hq hpg
  obtain ⟨b0, off0, rfl, hcell⟩ := h.cell q hq
  have c1 : (q : Int) < l.length := by omega
  have c1n : q < l.length := hq
  have hs1 : (w.alloc (.cells #[.int .i64 size, .slice (some ⟨b0, off0, none⟩) l.length cap] 28)).heap.size = w.heap.size + 1 := by simp
  have hs2 : ((w.alloc (.cells #[.int .i64 size, .slice (some ⟨b0, off0, none⟩) l.length cap] 28)).alloc (.cells #[.int .i64 0, .slice none 0 0] 28)).heap.size = w.heap.size + 1 + 1 := by simp
  have hA := ((TCell.new 28 w (.int .i64 size) (.slice (some ⟨b0, off0, none⟩) l.length cap)).ext ((Ext.refl _).alloc (.cells #[.int .i64 0, .slice none 0 0] 28))).ext ((Ext.refl _).alloc (.cells #[.int .i64 0, .int .i64 0] 33))
  have hB := (TCell.new 28 (w.alloc (.cells #[.int .i64 size, .slice (some ⟨b0, off0, none⟩) l.length cap] 28)) (.int .i64 0) (.slice none 0 0)).ext ((Ext.refl _).alloc (.cells #[.int .i64 0, .int .i64 0] 33))
  have hC := TCell.new 33 ((w.alloc (.cells #[.int .i64 size, .slice (some ⟨b0, off0, none⟩) l.length cap] 28)).alloc (.cells #[.int .i64 0, .slice none 0 0] 28)) (.int .i64 0) (.int .i64 0)
  rw [hs1] at hB
  rw [hs2] at hC
  have hx0 := (((Ext.refl w).alloc (.cells #[.int .i64 size, .slice (some ⟨b0, off0, none⟩) l.length cap] 28)).alloc (.cells #[.int .i64 0, .slice none 0 0] 28)).alloc (.cells #[.int .i64 0, .int .i64 0] 33)
  have h0 := h.ext hx0
  have hF1 := hF _ h0
  have hcell := hx0.cell hcell
  have hcb : w.heap.size + 1 + 1 ≠ w.heap.size + 1 := by omega
  have hbc : w.heap.size + 1 ≠ w.heap.size + 1 + 1 := by omega
  have hba : w.heap.size + 1 ≠ w.heap.size := by omega
  have hca : w.heap.size + 1 + 1 ≠ w.heap.size := by omega
  have HQ := Lib.hid (show l[q]? = some (nthB l q) from nthB_some hq)
  have hCp := fun {W : World} hW => refCopy7 (some ⟨b0, off0, none⟩) size cap l (w := W) hW
  have hp2 := fun {W : World} => hp W
  clear hs1 hs2 hF hs hpg hp h hq
  go_enter Tryz.func37, Tryz.ntmps37
  go_wp2_with (first
    | (go_at_call 20; (with_reducible refine hF1.mono ?_); rintro e w1 ⟨rfl, hx1⟩; have hA1 := hA.ext hx1; have a0 := hA1.cells.1; have a1 := hA1.cells.2.1; have cc := hx1.cell hcell; have h1 := h0.ext hx1)
    | (go_at_call 81; (with_reducible refine hp2.mono ?_); rintro e w2 ⟨rfl, hx2⟩; have hA2 := hA1.ext hx2; have b0' := hA2.cells.1; have b1' := hA2.cells.2.1; have h2 := h1.ext hx2; have hx02 := hx0.trans (hx1.trans hx2); have hsz2 := hx02.size; have hclt := (hC.ext (hx1.trans hx2)).lt)
    | (go_at_call 82; (with_reducible refine (hCp h2).mono ?_); rintro e w3 ⟨⟨g, c, rfl, ho⟩, hE⟩; have hg := ho.base_ g rfl; have hga : w.heap.size ≠ g := (by omega); have hgb : w.heap.size + 1 ≠ g := (by omega); have hgc : w.heap.size + 1 + 1 ≠ g := (by omega); have hA3 := hA2.ext hE; have af0 := hA3.cells.2.2.1; have af1 := hA3.cells.2.2.2; have A0 := hA3.cells.1; have A1 := hA3.cells.2.1; have hAs := hA3.set0 (.int .i64 size); have x1 := hAs.cells.2.1; have xf1 := hAs.cells.2.2.2; have hA4 := hAs.set1 (.slice (some ⟨g, 0, none⟩) l.length c); have p0 := hA4.cells.1; have p1 := hA4.cells.2.1; have o2 := (ho.far (R := w.heap.size) (i := 0) (by omega) (.int .i64 size)).far (R := w.heap.size) (i := 1) (by omega) (.slice (some ⟨g, 0, none⟩) l.length c); have oc := o2.cell1 elemS.hk rfl q (nthB l q) (.string (nthB l q)) HQ.out rfl; have of := o2.frozen rfl q; have o3 := o2.set1 elemS.hk rfl q (nthB l q) pg (.string pg) HQ.out rfl; have hA5 := hA4.far (p := ⟨g, q, none⟩) hga (.string pg); have z0 := hA5.cells.1; have z1 := hA5.cells.2.1; have hB3 := (((hB.ext (hx1.trans (hx2.trans hE))).far (p := ⟨w.heap.size, 0, none⟩) hba (.int .i64 size)).far (p := ⟨w.heap.size, 1, none⟩) hba (.slice (some ⟨g, 0, none⟩) l.length c)).far (p := ⟨g, q, none⟩) hgb (.string pg); have q0 := hB3.cells.1; have q1 := hB3.cells.2.1; have qf0 := hB3.cells.2.2.1; have qf1 := hB3.cells.2.2.2; have hB4 := hB3.set0 (.int .i64 size); have s1 := hB4.cells.2.1; have sf1 := hB4.cells.2.2.2; have hB5 := hB4.set1 (.slice (some ⟨g, 0, none⟩) l.length c); have hC3 := (((((hC.ext (hx1.trans (hx2.trans hE))).far (p := ⟨w.heap.size, 0, none⟩) hca (.int .i64 size)).far (p := ⟨w.heap.size, 1, none⟩) hca (.slice (some ⟨g, 0, none⟩) l.length c)).far (p := ⟨g, q, none⟩) hgc (.string pg)).far (p := ⟨w.heap.size + 1, 0, none⟩) hcb (.int .i64 size)).far (p := ⟨w.heap.size + 1, 1, none⟩) hcb (.slice (some ⟨g, 0, none⟩) l.length c); have u0 := hC3.cells.1; have u1 := hC3.cells.2.1; have uf0 := hC3.cells.2.2.1; have uf1 := hC3.cells.2.2.2; have hC4 := hC3.set0 (.int .i64 q); have v1 := hC4.cells.2.1; have vf1 := hC4.cells.2.2.2; have hB6 := (hB5.far (p := ⟨w.heap.size + 1 + 1, 0, none⟩) hbc (.int .i64 q)).far (p := ⟨w.heap.size + 1 + 1, 1, none⟩) hbc (.int .i64 line); have r0 := hB6.cells.1; have r1 := hB6.cells.2.1; have hC5 := hC4.set1 (.int .i64 line); have r2 := hC5.cells.1; have r3 := hC5.cells.2.1; have HO := Lib.hid o3; clear ho o2 o3))
  have own := (((HO.out.far (R := w.heap.size + 1) (i := 0) (by omega) (.int .i64 size)).far (R := w.heap.size + 1) (i := 1) (by omega) (.slice (some ⟨g, 0, none⟩) l.length c)).far (R := w.heap.size + 1 + 1) (i := 0) (by omega) (.int .i64 q)).far (R := w.heap.size + 1 + 1) (i := 1) (by omega) (.int .i64 line) |>.low (base' := w.heap.size) hsz2
  have hxF := ((((((((hx02.trans hE).setCell (p := ⟨w.heap.size, 0, none⟩) (Nat.le_refl _) (.int .i64 size)).setCell (p := ⟨w.heap.size, 1, none⟩) (Nat.le_refl _) (.slice (some ⟨g, 0, none⟩) l.length c)).setCell (p := ⟨g, q, none⟩) (show w.heap.size ≤ g from by omega) (.string pg)).setCell (p := ⟨w.heap.size + 1, 0, none⟩) (show w.heap.size ≤ w.heap.size + 1 from by omega) (.int .i64 size)).setCell (p := ⟨w.heap.size + 1, 1, none⟩) (show w.heap.size ≤ w.heap.size + 1 from by omega) (.slice (some ⟨g, 0, none⟩) l.length c)).setCell (p := ⟨w.heap.size + 1 + 1, 0, none⟩) (show w.heap.size ≤ w.heap.size + 1 + 1 from by omega) (.int .i64 q)).setCell (p := ⟨w.heap.size + 1 + 1, 1, none⟩) (show w.heap.size ≤ w.heap.size + 1 + 1 from by omega) (.int .i64 line))
  exact bodyPost_ret (v := .tuple #[.agg #[.int .i64 size, (.slice (some ⟨g, 0, none⟩) l.length c)], .agg #[.int .i64 q, .int .i64 line], .int .i64 0]) (by simp [results, Tryz.results37, go_sem, r0, r1, r2, r3]) rfl ⟨⟨_, rfl, NextR.own own (by simp) hG⟩, hxF⟩
end
section
open Go.RowKit
set_option linter.unusedVariables false
set_option linter.unusedSimpArgs false
set_option linter.unusedSectionVars false
set_option maxRecDepth 20000

set_option maxHeartbeats 2000000 in
theorem refFind7_no (P : Option Addr) (size cap : Nat) (near b : Int) (l : List ByteArray) {w : World} (hle : l.length ≤ 200) (hn : ¬ ((0 ≤ near ∧ near < l.length) ∧ 1 ≤ b)) :
    Calls Tryz.prog 20 #[.agg #[.int .i64 size, .slice P l.length cap], .int .i64 near, .int .i64 b] w fun e w' => e = .returned (.tuple #[.int .i64 0, .int .i64 7]) ∧ Ext w w' := by
  have hI := fun W => refIs_any P size near l.length cap W (by omega)
  have hx0 := (Ext.refl w).alloc (.cells #[.int .i64 size, .slice P l.length cap] 28)
  by_cases h1 : 0 ≤ near ∧ near < l.length
  · have c0 : b < 1 := by
      have : ¬ 1 ≤ b := fun h => hn ⟨h1, h⟩
      omega
    rw [decide_eq_true h1] at hI
    clear h1 hn
    go_enter Tryz.func20, Tryz.ntmps20
    go_wp2_with (go_at_call 62; (with_reducible refine (hI _).mono ?_); rintro e w1 ⟨rfl, hx1⟩)
    go_ret2
    exact ⟨rfl, hx0.trans hx1⟩
  · rw [decide_eq_false h1] at hI
    clear h1 hn
    go_enter Tryz.func20, Tryz.ntmps20
    go_wp2_with (go_at_call 62; (with_reducible refine (hI _).mono ?_); rintro e w1 ⟨rfl, hx1⟩)
    go_ret2
    exact ⟨rfl, hx0.trans hx1⟩
end
section
open Go.RowKit
set_option linter.unusedVariables false
set_option linter.unusedSimpArgs false
set_option linter.unusedSectionVars false
set_option maxRecDepth 20000

theorem flatS (l : List ByteArray) : l.flatMap csS = l.map .string := by
  induction l with
  | nil => rfl
  | cons a l ih => rw [List.flatMap_cons, ih, List.map_cons]; rfl
theorem Sp.slg {w : World} {A g size cap : Nat} {l : List ByteArray} {lv : List UInt8} (h : Sp w A g size l lv cap) : SlG csS w (some ⟨g, 0, none⟩) cap l := by
  have ho := h.own
  rw [← flatS] at ho
  obtain ⟨P, c, e, hs⟩ := own_slG elemS.hk ho (by have := h.le; omega)
  injection e with e1 _ e3
  subst e1 e3
  exact hs
set_option maxHeartbeats 1000000 in
theorem cloneS (P : Option Addr) (cap : Nat) (l : List ByteArray) (w : World) (h : SlG csS w P cap l) (h2 : l.length ≤ 100000) (h3 : P = none → cap = 0) :
    Calls Tryz.prog 90 #[.slice P l.length cap] w fun e w' => (∃ v, e = .returned v ∧ OwnS w' w.heap.size v l) ∧ Ext w w' := by
  have hlen := h.len
  have qT : ∀ (w : World) (a : Option Addr) (n c n' c' : Nat), (binOp .eql 26 (.slice a n c) (.slice none n' c')).run Tryz.prog w = .ok (.bool a.isNone) w := fun w a n c n' c' => Lib.run_eql_slice_nil w _ _ a n c n' c' Tryz.underlying26
  cases P with
  | none =>
    obtain rfl := h3 rfl
    obtain rfl : l = [] := List.length_eq_zero_iff.1 (by have := h.le; omega)
    go_enter Tryz.func90, Tryz.ntmps90
    go_wp2
    go_ret
    exact ⟨⟨_, rfl, OwnG.nil _ _ _ _ _⟩, Ext.refl _⟩
  | some ad =>
    go_enter Tryz.func90, Tryz.ntmps90
    go_wp2_with (at_builtin; refine wpList_app_G _ elemS rfl _ _ rfl (base := w.heap.size) (l := []) rfl (OwnG.lit0 (Nat.le_refl _)) rfl (h.ext ((Ext.refl _).alloc _)) (fun h => by cases h) (by simp; omega) (by simp; omega) (by simp) ?_)
    intro v' w' ho hb
    go_wp2
    go_ret
    exact ⟨⟨_, rfl, ho⟩, below_ext ((Ext.refl _).alloc _) hb (Nat.le_refl _)⟩
def arCells (lv : List UInt8) (size : Nat) (v : Value) : Array Value := (lv.map (fun b : UInt8 => Value.int .u8 b.toNat) ++ [Value.int .i64 size, v]).toArray
theorem Tryz.areaSize : (Tryz.prog.info? 89).map (·.size) = some 202 := by kernel_rfl
/-- an area of the call's own, with a copy of the pages -/
theorem Sp.of_own {w : World} {A size lo n : Nat} {l : List ByteArray} {lv : List UInt8} {v : Value} (hA : ArB w A lv size v) (hn : n = l.length) (ho : OwnS w lo v l) (hlo : A < lo) (hlev : ∀ i, i < l.length → nthL lv i = UInt8.ofNat (levP size (nthB l i))) (hg : GoodL size l) : ∃ g cap, v = .slice (some ⟨g, 0, none⟩) l.length cap ∧ lo ≤ g ∧ Sp w A g size l lv cap := by
  obtain ⟨g, cap, rfl, h1, h2, _, _⟩ := ho.tight hg.pos
  refine ⟨g, cap, rfl, h1, hA, ?_, by omega, hlev, hg.good, hg.pos, hg.le, hg.sz⟩
  have := OwnG.low ho (Nat.zero_le lo)
  unfold OwnG at this
  rw [flatS] at this
  exact this
theorem Sp.goodL {w : World} {A g size cap : Nat} {l : List ByteArray} {lv : List UInt8} (h : Sp w A g size l lv cap) : GoodL size l := ⟨h.good, h.pos, h.le, h.sz⟩
set_option maxHeartbeats 1000000 in
theorem scopy_any (A g size cap : Nat) (l : List ByteArray) (lv : List UInt8) (w : World) (h : Sp w A g size l lv cap) :
    Calls Tryz.prog 47 #[.pointer (some ⟨A, 0, none⟩)] w fun e w' => (∃ A' g' cap', e = .returned (.pointer (some ⟨A', 0, none⟩)) ∧ Sp w' A' g' size l lv cap' ∧ w.heap.size ≤ A' ∧ w.heap.size ≤ g') ∧ Ext w w' := by
  have hll := h.ar.len
  have hH : w.heap[A]? = some (.cells (arCells lv size (.slice (some ⟨g, 0, none⟩) l.length cap)) 89 (0, 0)) := h.ar.heap
  have hcs : (arCells lv size (.slice (some ⟨g, 0, none⟩) l.length cap)).size = 202 := by simp [arCells, hll]
  have hone : (arCells lv size (.slice (some ⟨g, 0, none⟩) l.length cap)).all (·.oneCell') = true := by
    simp only [arCells, List.all_toArray, List.all_append, List.all_map, List.all_cons, List.all_nil, Bool.and_true, Bool.and_eq_true]
    refine ⟨by simp [List.all_eq_true, Value.oneCell'], rfl, rfl⟩
  have hA' : ArB (w.alloc (.cells (arCells lv size (.slice (some ⟨g, 0, none⟩) l.length cap)) 89)) w.heap.size lv size (.slice (some ⟨g, 0, none⟩) l.length cap) := ⟨World.alloc_heap_new w _, hll⟩
  generalize arCells lv size (.slice (some ⟨g, 0, none⟩) l.length cap) = cs at *
  go_enter Tryz.func47, Tryz.ntmps47
  have hi : (Tryz.prog.info? 89).map (·.size) = some cs.size := by rw [hcs]; exact Tryz.areaSize
  have hzs : Tryz.zeroCells89.size = cs.size := by rw [hcs]; kernel_rfl
  have hx1 := (Ext.refl w).alloc (.cells cs 89)
  have hCl := cloneS (some ⟨g, 0, none⟩) cap l (w.alloc (.cells cs 89)) (h.slg.ext hx1) (by have := h.le; omega) (fun e => by cases e)
  have g1 := (h.ar.ext hx1).pagesC
  go_wp2_with (first
    | (refine wpList_load_row (P := Tryz.prog) rfl 89 (.tmp 7) rfl A rfl 89 cs (0, 0) _ hH Tryz.underlying89 rfl hi ?_)
    | (refine wpList_store_row (P := Tryz.prog) rfl 89 (.tmp 3) (.tmp 8) rfl w.heap.size cs rfl rfl 89 _ (World.alloc_heap_new w _) hi hzs hone ?_; rw [World.setRow_alloc_new])
    | (go_at_call 90; refine hCl.mono ?_; rintro e w2 ⟨⟨v2, rfl, ho2⟩, hx2⟩; obtain ⟨g2, c2, rfl, hg2, hl2, _, _⟩ := ho2.tight h.pos; have hA2 := hA'.ext hx2; have d1 := hA2.pagesC; have f1 := hA2.free 201; have hA3 := hA2.setPages (.slice (some ⟨g2, 0, none⟩) l.length c2); have ho3 := ho2.far (R := w.heap.size) (i := 201) (by simp) (.slice (some ⟨g2, 0, none⟩) l.length c2)))
  go_ret
  have hxF := (hx1.trans hx2).setCell (p := ⟨w.heap.size, 201, none⟩) (Nat.le_refl _) (.slice (some ⟨g2, 0, none⟩) l.length c2)
  obtain ⟨g3, c3, e3, hg3, hS⟩ := Sp.of_own hA3 rfl ho3 (by simp) h.lev h.goodL
  exact ⟨⟨_, g3, c3, rfl, hS, Nat.le_refl _, Nat.le_trans (by simp) hg3⟩, hxF⟩
end
section
open Go.RowKit
set_option linter.unusedVariables false
set_option linter.unusedSimpArgs false
set_option linter.unusedSectionVars false
set_option maxRecDepth 20000

/-- append of one text, with the block it lies in -/
theorem append_str2 (w : World) (v : Value) (l : List ByteArray) (p : ByteArray) (hown : w.ownsRow 0 9 1 v l.length (l.map .string)) (hn : l.length ≤ 1024) :
    ∃ v' w', (Builtin.append_ #[26, 26] 26 #[v, .slice (some ⟨w.heap.size, 0, none⟩) 1 1]).run Tryz.prog (w.alloc (.cells #[.string p] 9)) = .ok v' w' ∧ w'.ownsRow 0 9 1 v' (l.length + 1) ((l ++ [p]).map .string) ∧
      (w.alloc (.cells #[.string p] 9)).grownBy w' v.ownBlock ∧ (v'.ownBlock = v.ownBlock ∨ v'.ownBlock = some (w.heap.size + 1)) := by
  obtain ⟨i0, hi, hz0, hz1, hz2⟩ := info_parts Tryz.infoS
  obtain ⟨v', w', h1, h2, h3, _, h5⟩ := run_append_own_at (P := Tryz.prog) (w.alloc (.cells #[.string p] 9)) 0 26 26 9 i0 _ 1 16 Tryz.underlying26 hi hz0 hz1 hz2 rfl (by decide) v l.length (l.map .string) (ownsRow_ext hown ((Ext.refl w).alloc _)) ⟨w.heap.size, 0, none⟩ 1 1 [.string p] rfl
    (fun j u hj => by
      match j, hj with
      | 0, hj => simp at hj; subst hj; simp [Addr.add]) (by simp [Value.oneCell']) (by simp only [maxLen]; omega) (by omega) (Nat.zero_le _)
  refine ⟨v', w', h1, ?_, h3, ?_⟩
  · simpa using h2
  · simpa [World.size_alloc] using h5
/-- a page more at the end -/
theorem sp_push {w : World} {A g size cap : Nat} {l : List ByteArray} {lv : List UInt8} (h : Sp w A g size l lv cap) (hl : l.length < 200) (p : ByteArray) (hv : ValidR p) (hz : p.size = size) :
    ∃ g' cap' w6, (Builtin.append_ #[26, 26] 26 #[.slice (some ⟨g, 0, none⟩) l.length cap, .slice (some ⟨w.heap.size, 0, none⟩) 1 1]).run Tryz.prog (w.alloc (.cells #[.string p] 9)) = .ok (.slice (some ⟨g', 0, none⟩) (l.length + 1) cap') w6 ∧ (g' = g ∨ w.heap.size ≤ g') ∧
      w6.cell? ⟨A, 201, none⟩ = some (.slice (some ⟨g, 0, none⟩) l.length cap) ∧ w6.frozen? ⟨A, 201, none⟩ = false ∧
      (w6.setCell ⟨A, 201, none⟩ (.slice (some ⟨g', 0, none⟩) (l.length + 1) cap')).cell? ⟨A, 201, none⟩ = some (.slice (some ⟨g', 0, none⟩) (l.length + 1) cap') ∧
      Calls Tryz.prog 74 #[.pointer (some ⟨A, 0, none⟩), .int .i64 l.length] (w6.setCell ⟨A, 201, none⟩ (.slice (some ⟨g', 0, none⟩) (l.length + 1) cap')) fun e w' =>
        e = .returned (.tuple #[]) ∧ (∃ lv', Sp w' A g' size (l ++ [p]) lv' cap') ∧ Chg A g w w' := by
  obtain ⟨v', w6, hr, ho, hg, hob⟩ := append_str2 w _ l p h.own (by omega)
  have hL : (l ++ [p]).length = l.length + 1 := by simp
  have hll := h.ar.len
  obtain ⟨g', cap', rfl, _, hgl⟩ := own_slice' hL ho (by omega)
  have hob' : g' = g ∨ g' = w.heap.size + 1 := by
    rcases hob with e | e
    · left; simpa [Value.ownBlock] using e
    · right; simpa [Value.ownBlock] using e
  have hAl := h.ar.lt
  have hgA : g' ≠ A := by
    rcases hob' with e | e
    · rw [e]; exact fun e => h.ne e.symm
    · omega
  have hvb : (Value.slice (some ⟨g, 0, none⟩) l.length cap).ownBlock ≠ some A := by
    intro e
    simp [Value.ownBlock] at e
    exact h.ne e.symm
  have hA6 : ArB w6 A lv size (.slice (some ⟨g, 0, none⟩) l.length cap) := (h.ar.ext ((Ext.refl w).alloc (.cells #[.string p] 9))).same (hg.block A (by simp; omega) (fun e => hvb e.symm))
  have hA7 := hA6.setPages (.slice (some ⟨g', 0, none⟩) (l.length + 1) cap')
  have hu7 : Upd w6 A (w6.setCell ⟨A, 201, none⟩ (.slice (some ⟨g', 0, none⟩) (l.length + 1) cap')) := Upd.setCell _ _ _ _
  have ho7 : (w6.setCell ⟨A, 201, none⟩ (.slice (some ⟨g', 0, none⟩) (l.length + 1) cap')).ownsRow 0 9 1 (.slice (some ⟨g', 0, none⟩) (l.length + 1) cap') (l.length + 1) ((l ++ [p]).map .string) :=
    World.ownsRow.kept ho hu7 (.inr (fun e => by
      simp [Value.ownBlock] at e
      exact hgA e))
  have hnth : nthB (l ++ [p]) l.length = p := by rw [nthB_append _ _ _ (Nat.le_refl _), if_neg (Nat.lt_irrefl _)]
  have hN := noted_any A lv size _ (l.length + 1) cap' (l ++ [p]) l.length _ hA7 (slS_of_row' hL ho7) hL (by omega) (by omega) (by rw [hnth]; exact hv) (by rw [hnth]; exact hz)
  rw [hnth] at hN
  refine ⟨g', cap', w6, hr, ?_, hA6.pagesC, hA6.free 201, hA7.pagesC, hN.mono ?_⟩
  · rcases hob' with e | e
    · exact .inl e
    · exact .inr (by omega)
  rintro e w8 ⟨rfl, hA8, hu8⟩
  have ho8 : w8.ownsRow 0 9 1 (.slice (some ⟨g', 0, none⟩) (l.length + 1) cap') (l.length + 1) ((l ++ [p]).map .string) :=
    World.ownsRow.kept ho7 hu8 (.inr (fun e => by
      simp [Value.ownBlock] at e
      exact hgA e))
  have hc6 : Chg A g w w6 := ⟨hg.os, hg.tape, hg.output, Nat.le_trans (by simp) hg.size, fun k hk _ hkg => (hg.block k (by simp; omega) (fun e => hkg (by simpa [Value.ownBlock] using e))).trans (((Ext.refl w).alloc (.cells #[.string p] 9)).block hk)⟩
  refine ⟨rfl, ⟨_, ⟨by rw [hL]; exact hA8, by rw [hL]; exact ho8, fun e => hgA e.symm, fun i hi => ?_, fun i hi => ?_, by rw [hL]; omega, by rw [hL]; omega, h.sz⟩⟩, hc6.trans (Chg.of_a (hu7.trans hu8))⟩
  · rw [hL] at hi
    rw [nthL_set _ _ _ _ (by omega), nthB_append _ _ _ (by omega)]
    by_cases hik : i = l.length
    · rw [if_pos hik, if_neg (by omega)]
    · rw [if_neg hik, if_pos (by omega)]
      exact h.lev i (by omega)
  · rw [hL] at hi
    rw [nthB_append _ _ _ (by omega)]
    split
    · exact h.good i (by omega)
    · exact ⟨hv, hz⟩
theorem Chg.next {A g gr : Nat} {a b c : World} (h : Chg A g a b) (k : Chg A gr b c) (hg : gr = g ∨ a.heap.size ≤ gr) : Chg A g a c :=
  ⟨k.os.trans h.os, k.tape.trans h.tape, k.output.trans h.output, Nat.le_trans h.size k.size, fun i hi hA hne => (k.block i (Nat.lt_of_lt_of_le hi h.size) hA (by
    rcases hg with rfl | hg
    · exact hne
    · omega)).trans (h.block i hi hA hne)⟩
end
end Go.Proofs.YtnileonlabpbpaaGreat
