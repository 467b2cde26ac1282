/- Areas: New. -/
import Derived.Test.YtnileonlabpbpaaSpC
import Derived.Test.YtnileonlabpbpaaChgB
namespace Go.Proofs.Ytnileonlabpbpaa
open Go.RowKit
set_option linter.unusedVariables false
set_option maxRecDepth 20000
set_option maxRecDepth 20000

/-- a page without lines -/
noncomputable def newP (size : Nat) : ByteArray := (filledRes size 0 fun _ => (0, ⟨#[]⟩)).1
theorem newP_ok (size : Nat) (hz : sizeB (size : Int) = true) : ValidR (newP size) ∧ (newP size).size = size ∧ cnt (newP size) = 0 ∧ (fillRes size 0 fun _ => (0, ⟨#[]⟩)) = (newP size, 0) := by
  have hz' : 32 ≤ size ∧ size ≤ 4096 := by simp [sizeB] at hz; omega
  have hg : ¬ AnyBad (fun _ => ((0, ⟨#[]⟩) : Cel)) 0 := fun ⟨i, hi, _⟩ => by omega
  have hr : ¬ roomF size (fun _ => ((0, ⟨#[]⟩) : Cel)) 0 < 0 := by simp [roomF, lastF, bytesF]; omega
  have h0 : (filledRes size 0 fun _ => ((0, ⟨#[]⟩) : Cel)).2 = 0 := by unfold filledRes; rw [if_neg hr]
  obtain ⟨e1, e2, e3, _⟩ := filled_valid size 0 _ hg hz h0
  refine ⟨e2, e1, e3, ?_⟩
  unfold fillRes newP filledRes
  rw [if_neg hg, hz]
  simp [hr]

theorem Try.infoS : (Try.prog.info? 9).map (fun i => (i.zero, i.size, i.bytes)) = some (some (.string ⟨#[]⟩), 1, 16) := by kernel_rfl
/-- append of one text -/
theorem append_str (w : World) (base : Nat) (v : Value) (l : List ByteArray) (p : ByteArray) (hown : w.ownsRow base 9 1 v l.length (l.map .string)) (hn : l.length ≤ 1024) (hbase : base ≤ w.heap.size) :
    ∃ v' w', (Builtin.append_ #[27, 27] 27 #[v, .slice (some ⟨w.heap.size, 0, none⟩) 1 1]).run Try.prog (w.alloc (.cells #[.string p] 9)) = .ok v' w' ∧ w'.ownsRow base 9 1 v' (l ++ [p]).length ((l ++ [p]).map .string) ∧
      (w.alloc (.cells #[.string p] 9)).grownBy w' v.ownBlock := by
  obtain ⟨i0, hi, hz0, hz1, hz2⟩ := info_parts Try.infoS
  obtain ⟨v', w', h1, h2, h3, _⟩ := run_append_own_at (P := Try.prog) (w.alloc (.cells #[.string p] 9)) base 27 27 9 i0 _ 1 16 Try.underlying27 hi hz0 hz1 hz2 rfl (by decide) v l.length (l.map .string) (ownsRow_ext hown ((Ext.refl w).alloc _)) ⟨w.heap.size, 0, none⟩ 1 1 [.string p] rfl
    (fun j u hj => by
      match j, hj with
      | 0, hj => simp at hj; subst hj; simp [Addr.add]) (by simp [Value.oneCell']) (by simp only [maxLen]; omega) (by omega) (by simp; omega)
  refine ⟨v', w', h1, ?_, h3⟩
  simpa using h2

theorem zero_area : Try.zeroCells56 = ((List.replicate 200 (0 : UInt8)).map (fun b : UInt8 => Value.int .u8 b.toNat) ++ [Value.int .i64 0, Value.slice none 0 0]).toArray := by kernel_rfl
theorem newArea_arB (w : World) (size : Nat) : ArB (w.alloc (.cells (Try.zeroCells56.setIfInBounds 200 (.int .i64 size)) 56)) w.heap.size (List.replicate 200 0) size (.slice none 0 0) := by
  refine ⟨?_, by simp⟩
  rw [World.alloc_heap_new, zero_area]
  congr 2

theorem newArea_no (size pages : Int) (w : World) (h0 : -9223372036854775808 ≤ size ∧ size ≤ 9223372036854775807) (hn : ¬ (sizeB size = true ∧ 1 ≤ pages ∧ pages ≤ 200)) :
    Calls Try.prog 8 #[.int .i64 size, .int .i64 pages] w fun e w' => e = .returned (.tuple #[.pointer none, .int .i64 7]) ∧ Ext w w' := by
  have hN := fun W => new_any size W h0.1 h0.2
  by_cases hz : sizeB size = true
  · obtain ⟨m, rfl⟩ : ∃ m : Nat, size = m := ⟨size.toNat, by simp [sizeB] at hz; omega⟩
    obtain ⟨_, _, _, e⟩ := newP_ok m hz
    rw [e] at hN
    simp only at hN
    by_cases hp : pages < 1
    · go_enter Try.func8, Try.ntmps8
      go_wp2_with (go_at_call 14; refine (hN _).mono ?_; rintro e w1 ⟨rfl, hx1⟩)
      go_ret2
      exact ⟨rfl, hx1⟩
    · have hp2 : 200 < pages := by
        apply Classical.byContradiction
        intro h
        exact hn ⟨hz, by omega, by omega⟩
      go_enter Try.func8, Try.ntmps8
      go_wp2_with (go_at_call 14; refine (hN _).mono ?_; rintro e w1 ⟨rfl, hx1⟩)
      go_ret2
      exact ⟨rfl, hx1⟩
  · have e : (fillRes size 0 fun _ => ((0, ⟨#[]⟩) : Cel)) = (⟨#[]⟩, 7) := by
      have hA : ¬ AnyBad (fun _ => ((0, ⟨#[]⟩) : Cel)) 0 := fun ⟨i, hi, _⟩ => by omega
      have hz' : sizeB size = false := by simpa using hz
      simp [fillRes, hA, hz']
    rw [e] at hN
    go_enter Try.func8, Try.ntmps8
    go_wp2_with (go_at_call 14; refine (hN _).mono ?_; rintro e w1 ⟨rfl, hx1⟩)
    go_ret2
    exact ⟨rfl, hx1⟩

/-- an area that is being built: k pages so far -/
structure Bld (w : World) (A : Nat) (size : Nat) (l : List ByteArray) (lv : List UInt8) (v : Value) : Prop where
  ar : ArB w A lv size v
  own : w.ownsRow (A + 1) 9 1 v l.length (l.map .string)
  lev : ∀ i, i < l.length → nthL lv i = UInt8.ofNat (levP size (nthB l i))
theorem nthB_append (l : List ByteArray) (p : ByteArray) (i : Nat) (h : i ≤ l.length) : nthB (l ++ [p]) i = if i < l.length then nthB l i else p := by
  unfold nthB
  simp only [List.getD_eq_getElem?_getD]
  by_cases hi : i < l.length
  · rw [if_pos hi, List.getElem?_append_left hi]
  · rw [if_neg hi, List.getElem?_append_right (by omega)]
    have : i - l.length = 0 := by omega
    simp [this]
theorem nthL_set (lv : List UInt8) (k i : Nat) (b : UInt8) (hk : k < lv.length) : nthL (lv.set k b) i = if i = k then b else nthL lv i := by
  unfold nthL
  simp only [List.getD_eq_getElem?_getD, List.getElem?_set]
  by_cases h : k = i
  · subst h; simp [hk]
  · rw [if_neg h, if_neg (fun e => h e.symm)]
theorem nthB_replicate (n i : Nat) (p : ByteArray) (h : i < n) : nthB (List.replicate n p) i = p := by
  unfold nthB
  simp [List.getD_eq_getElem?_getD, h]
theorem own_slice {w : World} {base : Nat} {v : Value} {l : List ByteArray} (h : w.ownsRow base 9 1 v l.length (l.map .string)) (hl : 1 ≤ l.length) : ∃ g cap, v = .slice (some ⟨g, 0, none⟩) l.length cap ∧ base ≤ g ∧ g < w.heap.size := by
  rcases h.2 with ⟨_, h0⟩ | ⟨g, cap, cur, hv, hb, hg, _⟩
  · omega
  · exact ⟨g, cap, hv, hb, (Array.getElem?_eq_some_iff.1 hg).1⟩

theorem own_slice' {w : World} {base n : Nat} {v : Value} {l : List ByteArray} (hl : l.length = n) (h : w.ownsRow base 9 1 v n (l.map .string)) (h1 : 1 ≤ n) : ∃ g cap, v = .slice (some ⟨g, 0, none⟩) n cap ∧ base ≤ g ∧ g < w.heap.size := by
  subst hl
  exact own_slice h h1
theorem slS_of_row' {w : World} {base g n cap : Nat} {l : List ByteArray} (hl : l.length = n) (h : w.ownsRow base 9 1 (.slice (some ⟨g, 0, none⟩) n cap) n (l.map .string)) : SlS w (some ⟨g, 0, none⟩) l := by
  subst hl
  exact slS_of_row h

set_option maxHeartbeats 2000000 in
theorem newArea_yes (size : Nat) (pages : Nat) (w : World) (hz : sizeB (size : Int) = true) (h1 : 1 ≤ pages) (h2 : pages ≤ 200) :
    Calls Try.prog 8 #[.int .i64 size, .int .i64 pages] w fun e w' => ∃ A g lv cap, e = .returned (.tuple #[.pointer (some ⟨A, 0, none⟩), .int .i64 0]) ∧ Sp w' A g size (List.replicate pages (newP size)) lv cap ∧ w.heap.size ≤ A ∧ w.heap.size ≤ g ∧ Ext w w' := by
  have hz' : 32 ≤ size ∧ size ≤ 4096 := by simp [sizeB] at hz; omega
  obtain ⟨pv, pz, _, e⟩ := newP_ok size hz
  have hN := fun W => new_any size W (by omega) (by omega)
  rw [e] at hN
  simp only at hN
  clear e
  have c1 : ¬ (pages : Int) < 1 := by omega
  have c2 : ¬ 200 < (pages : Int) := by omega
  generalize newP size = p at *
  go_enter Try.func8, Try.ntmps8
  go_wp2_with (go_at_call 14; refine (hN _).mono ?_; rintro e w1 ⟨rfl, hx1⟩)
  have hnew := newArea_arB w1 size
  have hx2 := hx1.alloc (.cells (Try.zeroCells56.setIfInBounds 200 (.int .i64 size)) 56)
  have hs2 : (w1.alloc (.cells (Try.zeroCells56.setIfInBounds 200 (.int .i64 size)) 56)).heap.size = w1.heap.size + 1 := by simp
  have hA1 := hx1.size
  generalize w1.alloc (.cells (Try.zeroCells56.setIfInBounds 200 (.int .i64 size)) 56) = W2 at *
  generalize w1.heap.size = A at *
  go_loopw [29, 9] (fun i _ wr => ∃ k : Nat, k ≤ pages ∧ i = .int .i64 k ∧ (∃ lv v, Bld wr A size (List.replicate k p) lv v) ∧ Ext w wr ∧ A + 1 ≤ wr.heap.size) (fun i _ _ => pages - (intOf i).toNat)
  case atStart => exact ⟨0, by omega, rfl, ⟨_, _, hnew, World.ownsRow_nil _ _ _ _, fun i hi => by simp at hi⟩, hx2, by omega⟩
  case round =>
    obtain ⟨k, hk, rfl, ⟨lv, v, hB⟩, hx, hsz⟩ := hrel
    by_cases hlt : k < pages
    · have hll := hB.ar.len
      have d1 := hB.ar.pagesC
      have hAl := hB.ar.lt
      obtain ⟨v', w5, hr, ho5, hg5⟩ := append_str wr (A + 1) v (List.replicate k p) p hB.own (by simp; omega) hsz
      obtain ⟨L, hL⟩ : ∃ L, List.replicate k p ++ [p] = L := ⟨_, rfl⟩
      rw [hL] at ho5
      have hLn : L.length = k + 1 := by rw [← hL]; simp
      have hLr : L = List.replicate (k + 1) p := by rw [← hL, List.replicate_succ']
      rw [hLn] at ho5
      have hvb : v.ownBlock ≠ some A := fun h => by have := (hB.own.lt A h).1; omega
      have hA5 : ArB w5 A lv size v := (hB.ar.ext ((Ext.refl wr).alloc (.cells #[.string p] 9))).same (hg5.block A (by simp; omega) (fun h => hvb h.symm))
      have hx5 : Ext w w5 := Below.grown (hx.alloc (.cells #[.string p] 9)) hg5 (hx.alloc _).size (fun j hj => by have := (hB.own.lt j hj).1; omega)
      have d5 := hA5.pagesC
      have f5 := hA5.free 201
      have hA6 := hA5.setPages v'
      have hu6 : Upd w5 A (w5.setCell ⟨A, 201, none⟩ v') := Upd.setCell _ _ _ _
      have ho6 := ownsRow_upd ho5 hu6 (Nat.lt_succ_self A)
      obtain ⟨g, cap, rfl, hgb, hgl⟩ := own_slice' hLn ho6 (by omega)
      have hs6 : A + 1 ≤ (w5.setCell ⟨A, 201, none⟩ (.slice (some ⟨g, 0, none⟩) (k + 1) cap)).heap.size := Nat.le_trans hgb (by omega)
      have hnth : nthB L k = p := by rw [hLr, nthB_replicate _ _ _ (by omega)]
      have hNt := noted_any A lv size _ (k + 1) cap L k _ hA6 (slS_of_row' hLn ho6) hLn (by omega) (by omega) (by rw [hnth]; exact pv) (by rw [hnth]; exact pz)
      rw [hnth] at hNt
      have hx6 : Ext w (w5.setCell ⟨A, 201, none⟩ (.slice (some ⟨g, 0, none⟩) (k + 1) cap)) := Upd.ext hx5 hu6 (by omega)
      clear hnth hA6 hu6
      have HLn := Lib.hid hLn
      have HLr := Lib.hid hLr
      clear hLn hLr hL
      go_wp2_with (first
        | (at_builtin; refine Lib.wpList_append_run _ rfl _ _ _ _ rfl _ _ rfl rfl _ _ hr ?_)
        | (go_at_call 17; refine hNt.mono ?_; rintro e w7 ⟨rfl, hA7, hu7⟩))
      have ho7 := ownsRow_upd ho6 hu7 (Nat.lt_succ_self A)
      refine ⟨⟨k + 1, by omega, by go_num, ⟨_, _, hA7, by rw [← HLr.out, HLn.out]; exact ho7, fun i hi => ?_⟩, Upd.ext hx6 hu7 (by omega), Nat.le_trans hs6 hu7.size⟩, by simp [intOf]; omega⟩
      rw [List.length_replicate] at hi
      rw [nthL_set _ _ _ _ (by omega), nthB_replicate _ _ _ hi]
      by_cases hik : i = k
      · rw [if_pos hik]
      · rw [if_neg hik, hB.lev i (by simp; omega), nthB_replicate _ _ _ (by omega)]
    · obtain rfl : k = pages := by omega
      go_wp2
      go_ret2
      obtain ⟨g, cap, rfl, hgb, hgl⟩ := own_slice hB.own (by simp; omega)
      refine ⟨A, g, lv, cap, rfl, ⟨hB.ar, ownsRow_base hB.own (Nat.zero_le _), by omega, hB.lev, fun i hi => ?_, by simp; omega, by simp; omega, hz⟩, by omega, by omega, hx⟩
      rw [List.length_replicate] at hi
      rw [nthB_replicate _ _ _ hi]
      exact ⟨pv, pz⟩
end Go.Proofs.Ytnileonlabpbpaa
