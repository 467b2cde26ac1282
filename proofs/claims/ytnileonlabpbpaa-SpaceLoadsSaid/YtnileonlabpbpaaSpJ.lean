/- The reference's areas: Is, Room, Level, Free. -/
import Derived.Test.YtnileonlabpbpaaSpH
namespace Go.Proofs.Ytnileonlabpbpaa
open Go.RowKit
set_option linter.unusedVariables false
set_option maxRecDepth 20000
set_option maxRecDepth 20000

/-- the pages of a reference area -/
structure RAr (w : World) (P : Option Addr) (size : Nat) (l : List ByteArray) : Prop where
  sls : SlS w P l
  good : ∀ i, i < l.length → ValidR (nthB l i) ∧ (nthB l i).size = size
  le : l.length ≤ 200
  sz : sizeB (size : Int) = true
theorem RAr.ext {w w' : World} {P : Option Addr} {size : Nat} {l : List ByteArray} (h : RAr w P size l) (hx : Ext w w') : RAr w' P size l := ⟨h.sls.ext hx, h.good, h.le, h.sz⟩
theorem RAr.sizes {w : World} {P : Option Addr} {size : Nat} {l : List ByteArray} (h : RAr w P size l) : 32 ≤ size ∧ size ≤ 4096 := by have := h.sz; simp [sizeB] at this; omega

theorem refIs_any (P : Option Addr) (size x : Int) (n cap : Nat) (w : World) (hn : n ≤ 9223372036854775807) :
    Calls Try.prog 39 #[.agg #[.int .i64 size, .slice P n cap], .int .i64 x] w fun e w' => e = .returned (.bool (decide (0 ≤ x ∧ x < n))) ∧ Ext w w' := by
  by_cases h0 : 0 ≤ x
  · by_cases h1 : x < n
    · rw [decide_eq_true ⟨h0, h1⟩]
      go_enter Try.func39, Try.ntmps39
      go_wp2
      go_ret
      exact ⟨rfl, (Ext.refl w).alloc _⟩
    · rw [decide_eq_false (fun h => h1 h.2)]
      go_enter Try.func39, Try.ntmps39
      go_wp2
      go_ret
      exact ⟨rfl, (Ext.refl w).alloc _⟩
  · rw [decide_eq_false (fun h => h0 h.1)]
    go_enter Try.func39, Try.ntmps39
    go_wp2
    go_ret
    exact ⟨rfl, (Ext.refl w).alloc _⟩

theorem Boxed0.new (w : World) (x y : Value) : (w.alloc (.cells #[x, y] 29)).cell? ⟨w.heap.size, 0, none⟩ = some x := by
  have h := World.alloc_heap_new w (.cells #[x, y] 29)
  exact (by unfold World.cell?; rw [h]; rfl)
theorem ar_box {w w1 : World} (x y : Value) (hx : Ext (w.alloc (.cells #[x, y] 29)) w1) :
    w1.cell? ⟨w.heap.size, 0, none⟩ = some x ∧ w1.cell? ⟨w.heap.size, 1, none⟩ = some y ∧ w1.frozen? ⟨w.heap.size, 0, none⟩ = false ∧ w1.frozen? ⟨w.heap.size, 1, none⟩ = false := by
  have hb := hx.heap (World.alloc_heap_new w (.cells #[x, y] 29))
  refine ⟨by simp [World.cell?, hb], by simp [World.cell?, hb], by simp [World.frozen?, hb], by simp [World.frozen?, hb]⟩
set_option maxHeartbeats 2000000 in
theorem refRoom7 (P : Option Addr) (size cap : Nat) (l : List ByteArray) (q : Nat) (w : World) (h : RAr w P size l) (hq : q < l.length) :
    Calls Try.prog 40 #[.agg #[.int .i64 size, .slice P l.length cap], .int .i64 q] w fun e w' => e = .returned (.int .i64 (roomP (nthB l q))) ∧ Ext w w' := by
  obtain ⟨hv, hz⟩ := h.good q hq
  obtain ⟨b, off, rfl, hc⟩ := h.sls.at_ q hq
  have hle := h.le
  have hc1 : (w.alloc (.cells #[.int .i64 size, .slice (some ⟨b, off, none⟩) l.length cap] 29)).cell? ⟨b, off + q, none⟩ = some (.string (nthB l q)) := ((Ext.refl w).alloc _).cell hc
  have e : roomP (nthB l q) = roomF size (cel (nthB l q)) (cnt (nthB l q)) := by rw [← hz]; rfl
  rw [e]
  have hl := cel_last hv
  have hl0 : -4096 ≤ lastF (cel (nthB l q)) (cnt (nthB l q)) := by rw [hl]; omega
  have hl1 : lastF (cel (nthB l q)) (cnt (nthB l q)) ≤ 4096 := by rw [hl]; have := hv.1.2.1; omega
  obtain ⟨z1, z2⟩ := h.sizes
  have c1 : (q : Int) < l.length := by omega
  have hS := cel_size hv
  have hn := cnt_le hv
  have hC : ∀ W, Calls Try.prog 56 #[.string (nthB l q)] W fun e w' => ∃ A cap, e = .returned (.slice A (cnt (nthB l q)) cap) ∧ SlC w' A (cnt (nthB l q)) (cel (nthB l q)) ∧ Ext W w' := fun W =>
    (refCellsOf_any _ W hv).mono (by
      rintro e w2 ⟨v, rfl, hown, hx2⟩
      obtain ⟨A, cap, rfl, hs⟩ := slC_of_row hown
      exact ⟨A, cap, rfl, hs, hx2⟩)
  have hR := fun A cap W hs => refRoom_any size A cap (cnt (nthB l q)) (cel (nthB l q)) W hn hs hS hl0 hl1 (by omega) (by omega)
  clear hl e hc
  generalize cnt (nthB l q) = n at *
  generalize cel (nthB l q) = f at *
  generalize nthB l q = p at *
  go_enter Try.func40, Try.ntmps40
  go_wp2
  go_region_with (first
    | (go_at_call 56; refine (hC _).mono ?_; rintro e w3 ⟨A, cap', rfl, hs, hx3⟩; have q0 := hx3.cell (Boxed0.new w (.int .i64 size) (.slice (some ⟨b, off, none⟩) l.length cap)))
    | (go_at_call 55; refine (hR A cap' _ hs).mono ?_; rintro e w4 ⟨rfl, rfl⟩))
  all_goals (
    go_wp2
    go_ret
    exact ⟨rfl, (((Ext.refl w).alloc _).drew).trans hx3⟩)

theorem refLevel7 (P : Option Addr) (size cap : Nat) (l : List ByteArray) (q : Nat) (w : World) (h : RAr w P size l) (hq : q < l.length) :
    Calls Try.prog 21 #[.agg #[.int .i64 size, .slice P l.length cap], .int .i64 q] w fun e w' => e = .returned (.tuple #[.int .i64 (levP size (nthB l q)), .int .i64 0]) ∧ Ext w w' := by
  obtain ⟨hv, hz⟩ := h.good q hq
  have hle := h.le
  obtain ⟨z1, z2⟩ := h.sizes
  have hI := fun W => refIs_any P size q l.length cap W (by omega)
  have hR := fun W hW => refRoom7 P size cap l q W hW hq
  rw [decide_eq_true ⟨by omega, by omega⟩] at hI
  have hr := roomP_le hv
  have e : (levP size (nthB l q) : Int) = roomP (nthB l q) * 8 / (size : Int) := by
    unfold levP
    exact Int.toNat_of_nonneg (Int.ediv_nonneg (by omega) (by omega))
  rw [e]
  have k1 : IntKind.i64.wrap (roomP (nthB l q) * 8) = roomP (nthB l q) * 8 := IntWalk.i64_in _ ⟨by omega, by omega⟩
  have k2 : (roomP (nthB l q) * 8).tdiv (size : Int) = roomP (nthB l q) * 8 / (size : Int) := Int.tdiv_eq_ediv_of_nonneg (by omega)
  have k3 : ((size : Int) == 0) = false := by simp; omega
  have hb : 0 ≤ roomP (nthB l q) * 8 / (size : Int) ∧ roomP (nthB l q) * 8 / (size : Int) ≤ 40000 := ⟨Int.ediv_nonneg (by omega) (by omega), Int.le_trans (Int.ediv_le_self _ (by omega)) (by omega)⟩
  have k4 : IntKind.i64.wrap (roomP (nthB l q) * 8 / (size : Int)) = roomP (nthB l q) * 8 / (size : Int) := IntWalk.i64_in _ ⟨by omega, by omega⟩
  have k5 : ¬ (size : Int) = 0 := by omega
  clear e hb
  generalize roomP (nthB l q) = r at *
  go_enter Try.func21, Try.ntmps21
  go_wp2_with (go_at_call 39; refine (hI _).mono ?_; rintro e w1 ⟨rfl, hx1⟩; obtain ⟨c0, c1, f0, f1⟩ := ar_box _ _ hx1)
  have h1 := h.ext (((Ext.refl w).alloc _).trans hx1)
  go_region_with (go_at_call 40; refine (hR _ (h1.ext (Ext.drew (Ext.refl _)))).mono ?_; rintro e w2 ⟨rfl, hx2⟩; have d0 := hx2.cell c0; have d1 := hx2.cell c1)
  all_goals (
    go_wp2
    go_ret2
    exact ⟨rfl, ((((Ext.refl w).alloc _).trans hx1).drew).trans hx2⟩)

theorem refFree7 (P : Option Addr) (size cap : Nat) (l : List ByteArray) (w : World) (h : RAr w P size l) :
    Calls Try.prog 25 #[.agg #[.int .i64 size, .slice P l.length cap]] w fun e w' => e = .returned (.int .i64 (sumRoom l l.length)) ∧ Ext w w' := by
  have hle := h.le
  have hgood := fun i hi => (h.good i hi).1
  have hb := sumRoom_le l hgood
  have hR := fun q hq W hW => refRoom7 P size cap l q W hW hq
  go_enter Try.func25, Try.ntmps25
  go_wp2
  have hx0 := (Ext.refl w).alloc (.cells #[.int .i64 size, .slice P l.length cap] 29)
  go_loopw [3, 4] (fun s i wr => ∃ k : Nat, k ≤ l.length ∧ i = .int .i64 k ∧ s = .int .i64 (sumRoom l k) ∧ Ext (w.alloc (.cells #[.int .i64 size, .slice P l.length cap] 29)) wr) (fun _ i _ => l.length - (intOf i).toNat)
  case atStart => exact ⟨0, by omega, rfl, rfl, Ext.refl _⟩
  case round =>
    obtain ⟨k, hk, rfl, rfl, hx⟩ := hrel
    obtain ⟨c0, c1, f0, f1⟩ := ar_box _ _ hx
    have h1 := h.ext (hx0.trans hx)
    by_cases hlt : k < l.length
    · have hb0 := hb k (by omega)
      have hb1 := hb (k + 1) (by omega)
      have hbb : sumRoom l (k + 1) = sumRoom l k + roomP (nthB l k) := rfl
      rw [hbb] at hb1
      have Hb := Lib.hid hbb
      clear hbb
      have c2 : (k : Int) < l.length := by omega
      have hRk := hR k hlt
      generalize roomP (nthB l k) = r at *
      generalize sumRoom l k = sm at *
      have k1 : IntKind.i64.wrap (sm + r) = sm + r := IntWalk.i64_in _ ⟨by omega, by omega⟩
      go_wp2_with (go_at_call 40; refine (hRk _ h1).mono ?_; rintro e w2 ⟨rfl, hx2⟩)
      go_roundw
      case rel => exact ⟨k + 1, by omega, by go_num, by rw [Hb.out], hx.trans hx2⟩
      case measure => simp [intOf]; omega
    · obtain rfl : k = l.length := by omega
      go_wp2
      go_ret
      exact ⟨rfl, hx0.trans hx⟩
end Go.Proofs.Ytnileonlabpbpaa
