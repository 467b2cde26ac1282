/- SpD; SpE; SpF (merged by group.py) -/
import Derived.Test.YtnileonlabpbpaaGreatQ09
import Derived.Test.YtnileonlabpbpaaGreatQ10
namespace Go.Proofs.YtnileonlabpbpaaGreat
section
open Go.RowKit
set_option linter.unusedVariables false
set_option maxRecDepth 20000

/-- a page without lines -/
noncomputable def newP (size : Nat) : ByteArray := (filledRes size 0 fun _ => (0, ⟨#[]⟩)).1
theorem newP_ok (size : Nat) (hz : sizeB (size : Int) = true) : ValidR (newP size) ∧ (newP size).size = size ∧ cnt (newP size) = 0 ∧ (fillRes size 0 fun _ => (0, ⟨#[]⟩)) = (newP size, 0) := by
  have hz' : 32 ≤ size ∧ size ≤ 4096 := by simp [sizeB] at hz; omega
  have hg : ¬ AnyBad (fun _ => ((0, ⟨#[]⟩) : Cel)) 0 := fun ⟨i, hi, _⟩ => by omega
  have hr : ¬ roomF size (fun _ => ((0, ⟨#[]⟩) : Cel)) 0 < 0 := by simp [roomF, lastF, bytesF]; omega
  have h0 : (filledRes size 0 fun _ => ((0, ⟨#[]⟩) : Cel)).2 = 0 := by unfold filledRes; rw [if_neg hr]
  obtain ⟨e1, e2, e3, _⟩ := filled_valid size 0 _ hg hz h0
  refine ⟨e2, e1, e3, ?_⟩
  unfold fillRes newP filledRes
  rw [if_neg hg, hz]
  simp [hr]

theorem Tryz.infoS : (Tryz.prog.info? 9).map (fun i => (i.zero, i.size, i.bytes)) = some (some (.string ⟨#[]⟩), 1, 16) := by kernel_rfl
/-- append of one text -/
theorem append_str (w : World) (base : Nat) (v : Value) (l : List ByteArray) (p : ByteArray) (hown : w.ownsRow base 9 1 v l.length (l.map .string)) (hn : l.length ≤ 1024) (hbase : base ≤ w.heap.size) :
    ∃ v' w', (Builtin.append_ #[26, 26] 26 #[v, .slice (some ⟨w.heap.size, 0, none⟩) 1 1]).run Tryz.prog (w.alloc (.cells #[.string p] 9)) = .ok v' w' ∧ w'.ownsRow base 9 1 v' (l ++ [p]).length ((l ++ [p]).map .string) ∧
      (w.alloc (.cells #[.string p] 9)).grownBy w' v.ownBlock := by
  obtain ⟨i0, hi, hz0, hz1, hz2⟩ := info_parts Tryz.infoS
  obtain ⟨v', w', h1, h2, h3, _⟩ := run_append_own_at (P := Tryz.prog) (w.alloc (.cells #[.string p] 9)) base 26 26 9 i0 _ 1 16 Tryz.underlying26 hi hz0 hz1 hz2 rfl (by decide) v l.length (l.map .string) (ownsRow_ext hown ((Ext.refl w).alloc _)) ⟨w.heap.size, 0, none⟩ 1 1 [.string p] rfl
    (fun j u hj => by
      match j, hj with
      | 0, hj => simp at hj; subst hj; simp [Addr.add]) (by simp [Value.oneCell']) (by simp only [maxLen]; omega) (by omega) (by simp; omega)
  refine ⟨v', w', h1, ?_, h3⟩
  simpa using h2

theorem zero_area : Tryz.zeroCells89 = ((List.replicate 200 (0 : UInt8)).map (fun b : UInt8 => Value.int .u8 b.toNat) ++ [Value.int .i64 0, Value.slice none 0 0]).toArray := by kernel_rfl
theorem newArea_arB (w : World) (size : Nat) : ArB (w.alloc (.cells (Tryz.zeroCells89.setIfInBounds 200 (.int .i64 size)) 89)) w.heap.size (List.replicate 200 0) size (.slice none 0 0) := by
  refine ⟨?_, by simp⟩
  rw [World.alloc_heap_new, zero_area]
  congr 2

theorem newArea_no (size pages : Int) (w : World) (h0 : -9223372036854775808 ≤ size ∧ size ≤ 9223372036854775807) (hn : ¬ (sizeB size = true ∧ 1 ≤ pages ∧ pages ≤ 200)) :
    Calls Tryz.prog 35 #[.int .i64 size, .int .i64 pages] w fun e w' => e = .returned (.tuple #[.pointer none, .int .i64 7]) ∧ Ext w w' := by
  have hN := fun W => new_any size W h0.1 h0.2
  by_cases hz : sizeB size = true
  · obtain ⟨m, rfl⟩ : ∃ m : Nat, size = m := ⟨size.toNat, by simp [sizeB] at hz; omega⟩
    obtain ⟨_, _, _, e⟩ := newP_ok m hz
    rw [e] at hN
    simp only at hN
    by_cases hp : pages < 1
    · go_enter Tryz.func35, Tryz.ntmps35
      go_wp2_with (go_at_call 71; refine (hN _).mono ?_; rintro e w1 ⟨rfl, hx1⟩)
      go_ret2
      exact ⟨rfl, hx1⟩
    · have hp2 : 200 < pages := by
        apply Classical.byContradiction
        intro h
        exact hn ⟨hz, by omega, by omega⟩
      go_enter Tryz.func35, Tryz.ntmps35
      go_wp2_with (go_at_call 71; refine (hN _).mono ?_; rintro e w1 ⟨rfl, hx1⟩)
      go_ret2
      exact ⟨rfl, hx1⟩
  · have e : (fillRes size 0 fun _ => ((0, ⟨#[]⟩) : Cel)) = (⟨#[]⟩, 7) := by
      have hA : ¬ AnyBad (fun _ => ((0, ⟨#[]⟩) : Cel)) 0 := fun ⟨i, hi, _⟩ => by omega
      have hz' : sizeB size = false := by simpa using hz
      simp [fillRes, hA, hz']
    rw [e] at hN
    go_enter Tryz.func35, Tryz.ntmps35
    go_wp2_with (go_at_call 71; refine (hN _).mono ?_; rintro e w1 ⟨rfl, hx1⟩)
    go_ret2
    exact ⟨rfl, hx1⟩

/-- an area that is being built: k pages so far -/
structure Bld (w : World) (A : Nat) (size : Nat) (l : List ByteArray) (lv : List UInt8) (v : Value) : Prop where
  ar : ArB w A lv size v
  own : w.ownsRow (A + 1) 9 1 v l.length (l.map .string)
  lev : ∀ i, i < l.length → nthL lv i = UInt8.ofNat (levP size (nthB l i))
theorem nthB_append (l : List ByteArray) (p : ByteArray) (i : Nat) (h : i ≤ l.length) : nthB (l ++ [p]) i = if i < l.length then nthB l i else p := by
  unfold nthB
  simp only [List.getD_eq_getElem?_getD]
  by_cases hi : i < l.length
  · rw [if_pos hi, List.getElem?_append_left hi]
  · rw [if_neg hi, List.getElem?_append_right (by omega)]
    have : i - l.length = 0 := by omega
    simp [this]
theorem nthL_set (lv : List UInt8) (k i : Nat) (b : UInt8) (hk : k < lv.length) : nthL (lv.set k b) i = if i = k then b else nthL lv i := by
  unfold nthL
  simp only [List.getD_eq_getElem?_getD, List.getElem?_set]
  by_cases h : k = i
  · subst h; simp [hk]
  · rw [if_neg h, if_neg (fun e => h e.symm)]
theorem nthB_replicate (n i : Nat) (p : ByteArray) (h : i < n) : nthB (List.replicate n p) i = p := by
  unfold nthB
  simp [List.getD_eq_getElem?_getD, h]
theorem own_slice {w : World} {base : Nat} {v : Value} {l : List ByteArray} (h : w.ownsRow base 9 1 v l.length (l.map .string)) (hl : 1 ≤ l.length) : ∃ g cap, v = .slice (some ⟨g, 0, none⟩) l.length cap ∧ base ≤ g ∧ g < w.heap.size := by
  rcases h.2 with ⟨_, h0⟩ | ⟨g, cap, cur, hv, hb, hg, _⟩
  · omega
  · exact ⟨g, cap, hv, hb, (Array.getElem?_eq_some_iff.1 hg).1⟩

theorem own_slice' {w : World} {base n : Nat} {v : Value} {l : List ByteArray} (hl : l.length = n) (h : w.ownsRow base 9 1 v n (l.map .string)) (h1 : 1 ≤ n) : ∃ g cap, v = .slice (some ⟨g, 0, none⟩) n cap ∧ base ≤ g ∧ g < w.heap.size := by
  subst hl
  exact own_slice h h1
theorem slS_of_row' {w : World} {base g n cap : Nat} {l : List ByteArray} (hl : l.length = n) (h : w.ownsRow base 9 1 (.slice (some ⟨g, 0, none⟩) n cap) n (l.map .string)) : SlS w (some ⟨g, 0, none⟩) l := by
  subst hl
  exact slS_of_row h

set_option maxHeartbeats 2000000 in
theorem newArea_yes (size : Nat) (pages : Nat) (w : World) (hz : sizeB (size : Int) = true) (h1 : 1 ≤ pages) (h2 : pages ≤ 200) :
    Calls Tryz.prog 35 #[.int .i64 size, .int .i64 pages] w fun e w' => ∃ A g lv cap, e = .returned (.tuple #[.pointer (some ⟨A, 0, none⟩), .int .i64 0]) ∧ Sp w' A g size (List.replicate pages (newP size)) lv cap ∧ w.heap.size ≤ A ∧ w.heap.size ≤ g ∧ Ext w w' := by
  have hz' : 32 ≤ size ∧ size ≤ 4096 := by simp [sizeB] at hz; omega
  obtain ⟨pv, pz, _, e⟩ := newP_ok size hz
  have hN := fun W => new_any size W (by omega) (by omega)
  rw [e] at hN
  simp only at hN
  clear e
  have c1 : ¬ (pages : Int) < 1 := by omega
  have c2 : ¬ 200 < (pages : Int) := by omega
  generalize newP size = p at *
  go_enter Tryz.func35, Tryz.ntmps35
  go_wp2_with (go_at_call 71; refine (hN _).mono ?_; rintro e w1 ⟨rfl, hx1⟩)
  have hnew := newArea_arB w1 size
  have hx2 := hx1.alloc (.cells (Tryz.zeroCells89.setIfInBounds 200 (.int .i64 size)) 89)
  have hs2 : (w1.alloc (.cells (Tryz.zeroCells89.setIfInBounds 200 (.int .i64 size)) 89)).heap.size = w1.heap.size + 1 := by simp
  have hA1 := hx1.size
  generalize w1.alloc (.cells (Tryz.zeroCells89.setIfInBounds 200 (.int .i64 size)) 89) = W2 at *
  generalize w1.heap.size = A at *
  go_loopw [29, 9] (fun i _ wr => ∃ k : Nat, k ≤ pages ∧ i = .int .i64 k ∧ (∃ lv v, Bld wr A size (List.replicate k p) lv v) ∧ Ext w wr ∧ A + 1 ≤ wr.heap.size) (fun i _ _ => pages - (intOf i).toNat)
  case atStart => exact ⟨0, by omega, rfl, ⟨_, _, hnew, World.ownsRow_nil _ _ _ _, fun i hi => by simp at hi⟩, hx2, by omega⟩
  case round =>
    obtain ⟨k, hk, rfl, ⟨lv, v, hB⟩, hx, hsz⟩ := hrel
    by_cases hlt : k < pages
    · have hll := hB.ar.len
      have d1 := hB.ar.pagesC
      have hAl := hB.ar.lt
      obtain ⟨v', w5, hr, ho5, hg5⟩ := append_str wr (A + 1) v (List.replicate k p) p hB.own (by simp; omega) hsz
      obtain ⟨L, hL⟩ : ∃ L, List.replicate k p ++ [p] = L := ⟨_, rfl⟩
      rw [hL] at ho5
      have hLn : L.length = k + 1 := by rw [← hL]; simp
      have hLr : L = List.replicate (k + 1) p := by rw [← hL, List.replicate_succ']
      rw [hLn] at ho5
      have hvb : v.ownBlock ≠ some A := fun h => by have := (hB.own.lt A h).1; omega
      have hA5 : ArB w5 A lv size v := (hB.ar.ext ((Ext.refl wr).alloc (.cells #[.string p] 9))).same (hg5.block A (by simp; omega) (fun h => hvb h.symm))
      have hx5 : Ext w w5 := Below.grown (hx.alloc (.cells #[.string p] 9)) hg5 (hx.alloc _).size (fun j hj => by have := (hB.own.lt j hj).1; omega)
      have d5 := hA5.pagesC
      have f5 := hA5.free 201
      have hA6 := hA5.setPages v'
      have hu6 : Upd w5 A (w5.setCell ⟨A, 201, none⟩ v') := Upd.setCell _ _ _ _
      have ho6 := ownsRow_upd ho5 hu6 (Nat.lt_succ_self A)
      obtain ⟨g, cap, rfl, hgb, hgl⟩ := own_slice' hLn ho6 (by omega)
      have hs6 : A + 1 ≤ (w5.setCell ⟨A, 201, none⟩ (.slice (some ⟨g, 0, none⟩) (k + 1) cap)).heap.size := Nat.le_trans hgb (by omega)
      have hnth : nthB L k = p := by rw [hLr, nthB_replicate _ _ _ (by omega)]
      have hNt := noted_any A lv size _ (k + 1) cap L k _ hA6 (slS_of_row' hLn ho6) hLn (by omega) (by omega) (by rw [hnth]; exact pv) (by rw [hnth]; exact pz)
      rw [hnth] at hNt
      have hx6 : Ext w (w5.setCell ⟨A, 201, none⟩ (.slice (some ⟨g, 0, none⟩) (k + 1) cap)) := Upd.ext hx5 hu6 (by omega)
      clear hnth hA6 hu6
      have HLn := Lib.hid hLn
      have HLr := Lib.hid hLr
      clear hLn hLr hL
      go_wp2_with (first
        | (at_builtin; refine Lib.wpList_append_run _ rfl _ _ _ _ rfl _ _ rfl rfl _ _ hr ?_)
        | (go_at_call 74; refine hNt.mono ?_; rintro e w7 ⟨rfl, hA7, hu7⟩))
      have ho7 := ownsRow_upd ho6 hu7 (Nat.lt_succ_self A)
      refine ⟨⟨k + 1, by omega, by go_num, ⟨_, _, hA7, by rw [← HLr.out, HLn.out]; exact ho7, fun i hi => ?_⟩, Upd.ext hx6 hu7 (by omega), Nat.le_trans hs6 hu7.size⟩, by simp [intOf]; omega⟩
      rw [List.length_replicate] at hi
      rw [nthL_set _ _ _ _ (by omega), nthB_replicate _ _ _ hi]
      by_cases hik : i = k
      · rw [if_pos hik]
      · rw [if_neg hik, hB.lev i (by simp; omega), nthB_replicate _ _ _ (by omega)]
    · obtain rfl : k = pages := by omega
      go_wp2
      go_ret2
      obtain ⟨g, cap, rfl, hgb, hgl⟩ := own_slice hB.own (by simp; omega)
      refine ⟨A, g, lv, cap, rfl, ⟨hB.ar, ownsRow_base hB.own (Nat.zero_le _), by omega, hB.lev, fun i hi => ?_, by simp; omega, by simp; omega, hz⟩, by omega, by omega, hx⟩
      rw [List.length_replicate] at hi
      rw [nthB_replicate _ _ _ hi]
      exact ⟨pv, pz⟩
end
section
open Go.RowKit
set_option linter.unusedVariables false
set_option maxRecDepth 20000

/-- Only the blocks A and g have changed (and new blocks may be there). -/
structure Chg (A g : Nat) (w w' : World) : Prop where
  os : w'.os = w.os
  tape : w'.tape = w.tape
  output : w'.output = w.output
  size : w.heap.size ≤ w'.heap.size
  block : ∀ k, k < w.heap.size → k ≠ A → k ≠ g → w'.heap[k]? = w.heap[k]?
theorem Chg.of_ext {A g : Nat} {w w' : World} (h : Ext w w') : Chg A g w w' := ⟨h.os, h.tape, h.output, h.size, fun k hk _ _ => h.block hk⟩
theorem Chg.of_a {A g : Nat} {w w' : World} (h : Upd w A w') : Chg A g w w' := ⟨h.os, h.tape, h.output, h.size, fun k hk hA _ => h.block k hk (fun e => hA (by injection e))⟩
theorem Chg.of_g {A g : Nat} {w w' : World} (h : Upd w g w') : Chg A g w w' := ⟨h.os, h.tape, h.output, h.size, fun k hk _ hg => h.block k hk (fun e => hg (by injection e))⟩
theorem Chg.trans {A g : Nat} {a b c : World} (h : Chg A g a b) (k : Chg A g b c) : Chg A g a c :=
  ⟨k.os.trans h.os, k.tape.trans h.tape, k.output.trans h.output, Nat.le_trans h.size k.size, fun i hi hA hg => (k.block i (Nat.lt_of_lt_of_le hi h.size) hA hg).trans (h.block i hi hA hg)⟩
theorem Chg.ext {A g : Nat} {a b c : World} (h : Ext a b) (k : Chg A g b c) (hA : a.heap.size ≤ A) (hg : a.heap.size ≤ g) : Ext a c :=
  Ext.trans (Ext.refl a) ⟨k.os.trans h.os, k.tape.trans h.tape, k.output.trans h.output, Nat.le_trans h.size k.size, fun i hi => (k.block i (Nat.lt_of_lt_of_le hi h.size) (by omega) (by omega)).trans (h.block hi)⟩

theorem nthB_set (l : List ByteArray) (n i : Nat) (p : ByteArray) (hn : n < l.length) : nthB (l.set n p) i = if i = n then p else nthB l i := by
  unfold nthB
  simp only [List.getD_eq_getElem?_getD, List.getElem?_set]
  by_cases h : n = i
  · subst h; simp [hn]
  · rw [if_neg h, if_neg (fun e => h e.symm)]

theorem sp_store {w : World} {A g size cap : Nat} {l : List ByteArray} {lv : List UInt8} (h : Sp w A g size l lv cap) (n : Nat) (hn : n < l.length) (p : ByteArray) (hv : ValidR p) (hz : p.size = size) :
    Calls Tryz.prog 74 #[.pointer (some ⟨A, 0, none⟩), .int .i64 n] (w.setCell ⟨g, n, none⟩ (.string p)) fun e w' =>
      e = .returned (.tuple #[]) ∧ (∃ lv', Sp w' A g size (l.set n p) lv' cap) ∧ Chg A g w w' := by
  have hle := h.le
  have hA := h.ar.same (Below.heap_setCell w ⟨g, n, none⟩ (.string p) A h.ne)
  have ho := (h.own.stored n (.string p)).1
  rw [← List.map_set] at ho
  have hll := h.ar.len
  have hlen : (l.set n p).length = l.length := by simp
  have hs := slS_of_row' hlen ho
  have hnth : nthB (l.set n p) n = p := by rw [nthB_set _ _ _ _ hn, if_pos rfl]
  refine (noted_any A lv size _ l.length cap (l.set n p) n _ hA hs hlen hn (by omega) (by rw [hnth]; exact hv) (by rw [hnth]; exact hz)).mono ?_
  rintro e w' ⟨he, h1, h2⟩
  refine ⟨he, ⟨_, by rw [hlen]; exact h1, ?_, h.ne, fun i hi => ?_, fun i hi => ?_, by rw [hlen]; exact h.pos, by rw [hlen]; exact h.le, h.sz⟩, (Chg.of_g (Upd.setCell _ _ _ _)).trans (Chg.of_a h2)⟩
  · rw [hlen]
    refine ⟨ho.1, ?_⟩
    rcases ho.2 with h0 | ⟨g', cap', cur, hv', hb, hg, rest⟩
    · exact .inl h0
    · refine .inr ⟨g', cap', cur, hv', hb, h2.heap hg ?_, rest⟩
      simp only [Value.slice.injEq, Option.some.injEq, Addr.mk.injEq, and_true, true_and] at hv'
      rw [← hv'.1]
      exact fun e => h.ne e.symm
  · rw [hlen] at hi
    rw [nthL_set _ _ _ _ (by omega), hnth]
    by_cases hin : i = n
    · rw [if_pos hin, hin, hnth]
    · rw [if_neg hin, nthB_set _ _ _ _ hn, if_neg hin, h.lev i hi]
  · rw [hlen] at hi
    rw [nthB_set _ _ _ _ hn]
    by_cases hin : i = n
    · rw [if_pos hin]; exact ⟨hv, hz⟩
    · rw [if_neg hin]; exact h.good i hi

/-- a page that holds the bytes takes them -/
theorem put_holds (p s : ByteArray) (hv : ValidR p) (hs : s.toList ≠ []) (hs2 : s.size ≤ 140737488355328) (hh : holdsB p s.size = true) :
    ∃ q : ByteArray, ∃ line : Int, ValidR q ∧ q.size = p.size ∧ (∀ w, Calls Tryz.prog 77 #[.string p, .string s] w fun e w' => e = put3 (q, line, 0) ∧ Ext w w') ∧
      putRes p.size (cnt p) (cel p) (Classical.choose (pos_of (cel_good hv) (nextF (cel p) (cnt p)))) s = (q, line, 0) := by
  have hG := cel_good hv
  have hp := Classical.choose_spec (pos_of hG (nextF (cel p) (cnt p)))
  generalize Classical.choose (pos_of (cel_good hv) (nextF (cel p) (cnt p))) = pos at *
  have hs0 : 0 < s.size := by have h := hs; rw [ne_eq, toList_nil] at h; omega
  have hge := (nextI hG _ (Nat.le_refl _)).ge
  unfold holdsB topLine at hh
  simp only [Bool.and_eq_true, decide_eq_true_eq] at hh
  have hroom := roomF_ins hp (by omega) s p.size
  have hr : ¬ roomF p.size (insF (cel p) pos (nextF (cel p) (cnt p), s)) (cnt p + 1) < 0 := by
    rw [hroom]
    omega
  have e : putRes p.size (cnt p) (cel p) pos s = ((filledRes p.size (cnt p + 1) (insF (cel p) pos (nextF (cel p) (cnt p), s))).1, ((nextF (cel p) (cnt p) : Nat) : Int), 0) := by
    unfold putRes filledRes
    rw [if_pos hh.1, if_neg hr]
    simp only [hr, if_false]
  obtain ⟨e1, e2, _, _⟩ := filled_valid p.size (cnt p + 1) _ (ins_good hG hp ⟨by omega, by omega⟩ (next_miss hG) s hs0) hv.1.1 (by unfold filledRes; rw [if_neg hr])
  refine ⟨_, _, e2, e1, fun w => ?_, e⟩
  rw [← e]
  exact put_ok p s w hv hs hs2 pos hp

theorem Chg.setNew {A g : Nat} {w w' : World} (h : Chg A g w w') {p : Addr} (hp : w.heap.size ≤ p.block) (v : Value) : Chg A g w (w'.setCell p v) :=
  ⟨h.os, h.tape, h.output, by simpa [World.setCell] using h.size, fun k hk hA hg => (Below.heap_setCell _ _ _ k (by omega)).trans (h.block k hk hA hg)⟩
theorem Sp.same {w w' : World} {A g size cap : Nat} {l : List ByteArray} {lv : List UInt8} (h : Sp w A g size l lv cap) (hA : w'.heap[A]? = w.heap[A]?) (hg : w'.heap[g]? = w.heap[g]?) : Sp w' A g size l lv cap := by
  refine ⟨h.ar.same hA, ⟨h.own.1, ?_⟩, h.ne, h.lev, h.good, h.pos, h.le, h.sz⟩
  rcases h.own.2 with h0 | ⟨g', cap', cur, hv', hb, hgh, rest⟩
  · exact .inl h0
  · refine .inr ⟨g', cap', cur, hv', hb, ?_, rest⟩
    simp only [Value.slice.injEq, Option.some.injEq, Addr.mk.injEq, and_true, true_and] at hv'
    rw [← hv'.1, hg, hv'.1]
    exact hgh
theorem Sp.gl {w : World} {A g size cap : Nat} {l : List ByteArray} {lv : List UInt8} (h : Sp w A g size l lv cap) : g < w.heap.size := (h.own.lt g rfl).2
theorem Sp.setFar {w : World} {A g size cap : Nat} {l : List ByteArray} {lv : List UInt8} (h : Sp w A g size l lv cap) {p : Addr} (hA : A ≠ p.block) (hg : g ≠ p.block) (v : Value) : Sp (w.setCell p v) A g size l lv cap :=
  h.same (Below.heap_setCell _ _ _ A hA) (Below.heap_setCell _ _ _ g hg)
theorem nthCell {w : World} {A g size cap : Nat} {l : List ByteArray} {lv : List UInt8} (h : Sp w A g size l lv cap) (q : Nat) (hq : q < l.length) : w.cell? ⟨g, q, none⟩ = some (.string (nthB l q)) := by
  obtain ⟨b', off, e, hc⟩ := h.sls.at_ q hq
  simp only [Option.some.injEq, Addr.mk.injEq, and_true] at e
  obtain ⟨rfl, rfl⟩ := e
  simpa using hc
theorem addr_cells {w : World} {k : Nat} {x y : Value} {t : TypeId} (hb : w.heap[k]? = some (.cells #[x, y] t (0, 0))) :
    w.cell? ⟨k, 0, none⟩ = some x ∧ w.cell? ⟨k, 1, none⟩ = some y ∧ w.frozen? ⟨k, 0, none⟩ = false ∧ w.frozen? ⟨k, 1, none⟩ = false :=
  ⟨by simp [World.cell?, hb], by simp [World.cell?, hb], by simp [World.frozen?, hb], by simp [World.frozen?, hb]⟩
theorem addr_box {w w1 : World} (x y : Value) (hx : Ext (w.alloc (.cells #[x, y] 33)) w1) :
    w1.cell? ⟨w.heap.size, 0, none⟩ = some x ∧ w1.cell? ⟨w.heap.size, 1, none⟩ = some y ∧ w1.frozen? ⟨w.heap.size, 0, none⟩ = false ∧ w1.frozen? ⟨w.heap.size, 1, none⟩ = false := by
  have hb := hx.heap (World.alloc_heap_new w (.cells #[x, y] 33))
  refine ⟨by simp [World.cell?, hb], by simp [World.cell?, hb], by simp [World.frozen?, hb], by simp [World.frozen?, hb]⟩
theorem sput_empty (A : Nat) (near : Int) (s : ByteArray) (w : World) (hs : s.toList = []) :
    Calls Tryz.prog 33 #[.pointer (some ⟨A, 0, none⟩), .int .i64 near, .string s] w fun e w' => e = .returned (.tuple #[.agg #[.int .i64 0, .int .i64 0], .int .i64 1]) ∧ Ext w w' := by
  go_enter Tryz.func33, Tryz.ntmps33
  go_wp2
  exact bodyPost_ret (v := .tuple #[.agg #[.int .i64 0, .int .i64 0], .int .i64 1]) (by simp [results, Tryz.results33, go_sem]) rfl ⟨rfl, ((Ext.refl w).alloc _)⟩
section
variable (A g size cap : Nat) (l : List ByteArray) (lv : List UInt8) (near : Int) (s : ByteArray) (w : World) (h : Sp w A g size l lv cap)
include h
theorem sput_no (hs : s.toList ≠ []) (c : Int) (hc : c ≠ 0) (hF : ∀ W, Sp W A g size l lv cap → Calls Tryz.prog 19 #[.pointer (some ⟨A, 0, none⟩), .int .i64 near, .int .i64 s.size] W fun e w' => e = .returned (.tuple #[.int .i64 0, .int .i64 c]) ∧ Ext W w') :
    Calls Tryz.prog 33 #[.pointer (some ⟨A, 0, none⟩), .int .i64 near, .string s] w fun e w' => e = .returned (.tuple #[.agg #[.int .i64 0, .int .i64 0], .int .i64 c]) ∧ Ext w w' := by
  have d3 : s.toList.isEmpty = false := by simpa using hs
  have d4 : (c == 0) = false := by simpa using hc
  have d5 : (c != 0) = true := by simpa using hc
  clear hs
  go_enter Tryz.func33, Tryz.ntmps33
  go_wp2_with (go_at_call 19; refine (hF _ (h.ext ((Ext.refl w).alloc _))).mono ?_; rintro e w1 ⟨rfl, hx1⟩; obtain ⟨r0, r1, f0, f1⟩ := addr_box _ _ hx1)
  exact bodyPost_ret (v := .tuple #[.agg #[.int .i64 0, .int .i64 0], .int .i64 c]) (by simp [results, Tryz.results33, go_sem, r0, r1]) rfl ⟨rfl, ((((Ext.refl w).alloc _).trans hx1).setCell (Nat.le_refl _) _).setCell (Nat.le_refl _) _⟩
theorem sput_yes (hs : s.toList ≠ []) (q : Nat) (hq : q < l.length) (hF : ∀ W, Sp W A g size l lv cap → Calls Tryz.prog 19 #[.pointer (some ⟨A, 0, none⟩), .int .i64 near, .int .i64 s.size] W fun e w' => e = .returned (.tuple #[.int .i64 q, .int .i64 0]) ∧ Ext W w')
    (p' : ByteArray) (line : Int) (hv' : ValidR p') (hz' : p'.size = size) (hP : ∀ W, Calls Tryz.prog 77 #[.string (nthB l q), .string s] W fun e w' => e = put3 (p', line, 0) ∧ Ext W w') :
    Calls Tryz.prog 33 #[.pointer (some ⟨A, 0, none⟩), .int .i64 near, .string s] w fun e w' => e = .returned (.tuple #[.agg #[.int .i64 q, .int .i64 line], .int .i64 0]) ∧ (∃ lv', Sp w' A g size (l.set q p') lv' cap) ∧ Chg A g w w' := by
  have d3 : s.toList.isEmpty = false := by simpa using hs
  simp only [put3] at hP
  clear hs
  have c1 : (q : Int) < l.length := by omega
  go_enter Tryz.func33, Tryz.ntmps33
  go_wp2_with (go_at_call 19; refine (hF _ (h.ext ((Ext.refl w).alloc _))).mono ?_; rintro e w1 ⟨rfl, hx1⟩; have hx1' := ((Ext.refl w).alloc _).trans hx1; have h1 := h.ext hx1'; have g1 := h1.ar.pagesC; have g2 := nthCell h1 q hq)
  refine (hP _).mono ?_
  rintro e w2 ⟨rfl, hx2⟩
  have hx2' := hx1'.trans hx2
  have h2 := h.ext hx2'
  have g3 := h2.ar.pagesC
  have g4 := nthCell h2 q hq
  have f4 := h2.own.frozenAt q
  have hAl := h.ar.lt
  have hgl := h.gl
  have hbx := hx2.heap (hx1.heap (World.alloc_heap_new w (.cells #[.int .i64 0, .int .i64 0] 33)))
  have hN := sp_store h2 q hq p' hv' hz'
  clear g1 g2 hx1' h1
  go_wp2_with (go_at_call 74; refine hN.mono ?_; rintro e w3 ⟨rfl, ⟨lv', hS⟩, hc⟩; have hb3 := (hc.block w.heap.size (Nat.lt_of_lt_of_le (by simp) (Nat.le_trans hx1.size hx2.size)) (by omega) (by omega)).trans hbx; obtain ⟨r0, r1, f0, f1⟩ := addr_cells hb3)
  exact bodyPost_ret (v := .tuple #[.agg #[.int .i64 q, .int .i64 line], .int .i64 0]) (by simp [results, Tryz.results33, go_sem, r0, r1]) rfl
    ⟨rfl, ⟨lv', (hS.setFar (by simp; omega) (by simp; omega) _).setFar (by simp; omega) (by simp; omega) _⟩, ((((Chg.of_ext hx2').trans hc).setNew (Nat.le_refl _) _).setNew (Nat.le_refl _) _)⟩
end
end
section
open Go.RowKit
set_option linter.unusedVariables false
set_option maxRecDepth 20000

section
variable (A g size cap : Nat) (l : List ByteArray) (lv : List UInt8) (x line : Int) (w : World) (h : Sp w A g size l lv cap)
include h
theorem sget_range (hx : ¬ (0 ≤ x ∧ x < l.length)) :
    Calls Tryz.prog 15 #[.pointer (some ⟨A, 0, none⟩), .agg #[.int .i64 x, .int .i64 line]] w fun e w' => e = two2 (⟨#[]⟩, 7) ∧ Ext w w' := by
  have hle := h.le
  have hA := fun W hW => asked_is A lv size (some ⟨g, 0, none⟩) l.length cap x W hW (by omega)
  rw [if_neg hx] at hA
  go_enter Tryz.func15, Tryz.ntmps15
  go_wp2_with (go_at_call 55; refine (hA _ (by exact (h.ext ((Ext.refl w).alloc _)).ar)).mono ?_; rintro e w1 ⟨rfl, rfl⟩)
  go_ret2
  exact ⟨rfl, (Ext.refl w).alloc _⟩
theorem sget_in (q : Nat) (hq : q < l.length) (hx : x = q) (r : ByteArray × Int) (hG : ∀ W, Calls Tryz.prog 56 #[.string (nthB l q), .int .i64 line] W fun e w' => e = two2 r ∧ Ext W w') :
    Calls Tryz.prog 15 #[.pointer (some ⟨A, 0, none⟩), .agg #[.int .i64 x, .int .i64 line]] w fun e w' => e = two2 r ∧ Ext w w' := by
  subst hx
  have hle := h.le
  have hA := fun W hW => asked_is A lv size (some ⟨g, 0, none⟩) l.length cap q W hW (by omega)
  rw [if_pos ⟨by omega, by omega⟩] at hA
  have c1 : (q : Int) < l.length := by omega
  have hxa := (Ext.refl w).alloc (.cells #[.int .i64 (q : Int), .int .i64 line] 33)
  have h1 := h.ext hxa
  obtain ⟨b0, b1, _, _⟩ := addr_box (.int .i64 (q : Int)) (.int .i64 line) (Ext.refl (w.alloc (.cells #[.int .i64 (q : Int), .int .i64 line] 33)))
  have g1 := h1.ar.pagesC
  have g2 := nthCell h1 q hq
  obtain ⟨ra, rb⟩ := r
  simp only [two2] at hG ⊢
  have hA1 := hA _ h1.ar
  generalize hW1 : w.alloc (.cells #[.int .i64 (q : Int), .int .i64 line] 33) = W1 at *
  go_enter Tryz.func15, Tryz.ntmps15
  go_wp2_with (go_at_call 55; refine hA1.mono ?_; rintro e w1 ⟨rfl, rfl⟩)
  go_region_held3 (fun w' => w'.cell? ⟨w.heap.size, 0, none⟩ = some (.int .i64 (q : Int)) ∧ w'.cell? ⟨w.heap.size, 1, none⟩ = some (.int .i64 line) ∧ w'.cell? ⟨A, 201, none⟩ = some (.slice (some ⟨g, 0, none⟩) l.length cap) ∧ w'.cell? ⟨g, q, none⟩ = some (.string (nthB l q))) (go_keep)
    (first | (go_at_call 56; refine (hG _).mono ?_; rintro e w5 ⟨rfl, hx5⟩; have m1 := hx5.cell (p := ⟨w.heap.size, 0, none⟩) (v := .int .i64 (q : Int)) (by exact b0); have m2 := hx5.cell (p := ⟨w.heap.size, 1, none⟩) (v := .int .i64 line) (by exact b1); have m3 := hx5.cell (p := ⟨A, 201, none⟩) (v := .slice (some ⟨g, 0, none⟩) l.length cap) (by exact g1); have m4 := hx5.cell (p := ⟨g, q, none⟩) (v := .string (nthB l q)) (by exact g2); have m5 := Ext.trans (Ext.drew hxa) hx5))
  all_goals (
    go_wp2
    go_ret2
    exact ⟨rfl, m5⟩)
end

/-- the pages behind a change -/
def newPages (l : List ByteArray) (q : Nat) (r : ByteArray × Int) : List ByteArray := if r.2 = 0 then l.set q r.1 else l
/-- a page is changed by a function -/
theorem change_no (A g size cap : Nat) (l : List ByteArray) (lv : List UInt8) (x : Int) (fv : Value) (w : World) (h : Sp w A g size l lv cap) (hx : ¬ (0 ≤ x ∧ x < l.length)) :
    Calls Tryz.prog 48 #[.pointer (some ⟨A, 0, none⟩), .int .i64 x, fv] w fun e w' => e = .returned (.int .i64 7) ∧ Ext w w' := by
  have hle := h.le
  have hA := fun W hW => asked_is A lv size (some ⟨g, 0, none⟩) l.length cap x W hW (by omega)
  rw [if_neg hx] at hA
  go_enter Tryz.func48, Tryz.ntmps48
  go_wp2_with (go_at_call 55; refine (hA _ h.ar).mono ?_; rintro e w1 ⟨rfl, rfl⟩)
  go_ret
  exact ⟨rfl, Ext.refl w⟩
theorem change_in (A g size cap : Nat) (l : List ByteArray) (lv : List UInt8) (q : Nat) (fid : FuncId) (caps : Array Value) (w : World) (h : Sp w A g size l lv cap) (hq : q < l.length) (r : ByteArray × Int)
    (hf : ∀ args w, (callFunc fid args).run Tryz.prog w = .ok (.enter fid args) w)
    (hF : Calls Tryz.prog fid (#[.string (nthB l q)] ++ caps) w fun e w' => e = two2 r ∧ Ext w w') (hv : r.2 = 0 → ValidR r.1 ∧ r.1.size = size) :
    Calls Tryz.prog 48 #[.pointer (some ⟨A, 0, none⟩), .int .i64 q, .func (.func fid) #[] caps] w fun e w' => e = .returned (.int .i64 r.2) ∧ (∃ lv', Sp w' A g size (newPages l q r) lv' cap) ∧ Chg A g w w' := by
  have hle := h.le
  have hA := fun W hW => asked_is A lv size (some ⟨g, 0, none⟩) l.length cap q W hW (by omega)
  rw [if_pos ⟨by omega, by omega⟩] at hA
  have c1 : (q : Int) < l.length := by omega
  have g1 := h.ar.pagesC
  have g2 := nthCell h q hq
  obtain ⟨p', c⟩ := r
  simp only [two2] at hF hv ⊢
  by_cases hc : c = 0
  · subst hc
    obtain ⟨hv1, hv2⟩ := hv rfl
    have e0 : newPages l q (p', 0) = l.set q p' := if_pos rfl
    rw [e0]
    clear hv e0
    go_enter Tryz.func48, Tryz.ntmps48
    go_wp2_with (go_at_call 55; refine (hA _ h.ar).mono ?_; rintro e w1 ⟨rfl, rfl⟩)
    refine hF.mono ?_
    rintro e w2 ⟨rfl, hx2⟩
    have h2 := h.ext hx2
    have g3 := h2.ar.pagesC
    have g4 := nthCell h2 q hq
    have f4 := h2.own.frozenAt q
    have hN := sp_store h2 q hq p' hv1 hv2
    clear g1 g2
    go_wp2_with (go_at_call 74; refine hN.mono ?_; rintro e w3 ⟨rfl, hS, hc⟩)
    go_ret
    exact ⟨rfl, hS, (Chg.of_ext hx2).trans hc⟩
  · have e0 : newPages l q (p', c) = l := if_neg hc
    rw [e0]
    clear e0
    have d4 : (c == 0) = false := by simpa using hc
    have d5 : (c != 0) = true := by simpa using hc
    clear hv
    go_enter Tryz.func48, Tryz.ntmps48
    go_wp2_with (go_at_call 55; refine (hA _ h.ar).mono ?_; rintro e w1 ⟨rfl, rfl⟩)
    refine hF.mono ?_
    rintro e w2 ⟨rfl, hx2⟩
    go_wp2
    go_ret
    exact ⟨rfl, ⟨_, h.ext hx2⟩, Chg.of_ext hx2⟩

theorem bytesF_small {p : ByteArray} (hv : ValidR p) : p.size ≤ 140737488355328 := by have := (sizes_of hv).2; omega
/-- the closure of Drop -/
theorem dropF_any (c : Nat) (x line : Int) (p : ByteArray) (w : World) (hc : w.cell? ⟨c, 1, none⟩ = some (.int .i64 line)) (r : ByteArray × Int) (hD : ∀ W, Calls Tryz.prog 54 #[.string p, .int .i64 line] W fun e w' => e = two2 r ∧ Ext W w') :
    Calls Tryz.prog 53 #[.string p, .pointer (some ⟨c, 0, none⟩)] w fun e w' => e = two2 r ∧ Ext w w' := by
  obtain ⟨a, b⟩ := r
  simp only [two2] at hD ⊢
  go_enter Tryz.func53, Tryz.ntmps53
  go_wp2_with (go_at_call 54; refine (hD _).mono ?_; rintro e w1 ⟨rfl, hx1⟩)
  go_ret2
  exact ⟨rfl, hx1⟩
theorem setF_any (c d : Nat) (line : Int) (s p : ByteArray) (w : World) (hc : w.cell? ⟨c, 1, none⟩ = some (.int .i64 line)) (hd : w.cell? ⟨d, 0, none⟩ = some (.string s)) (r : ByteArray × Int) (hD : ∀ W, Calls Tryz.prog 50 #[.string p, .int .i64 line, .string s] W fun e w' => e = two2 r ∧ Ext W w') :
    Calls Tryz.prog 49 #[.string p, .pointer (some ⟨c, 0, none⟩), .pointer (some ⟨d, 0, none⟩)] w fun e w' => e = two2 r ∧ Ext w w' := by
  obtain ⟨a, b⟩ := r
  simp only [two2] at hD ⊢
  go_enter Tryz.func49, Tryz.ntmps49
  go_wp2_with (go_at_call 50; refine (hD _).mono ?_; rintro e w1 ⟨rfl, hx1⟩)
  go_ret2
  exact ⟨rfl, hx1⟩
theorem putAtF_any (c d : Nat) (line : Int) (s p : ByteArray) (w : World) (hc : w.cell? ⟨c, 1, none⟩ = some (.int .i64 line)) (hd : w.cell? ⟨d, 0, none⟩ = some (.string s)) (r : ByteArray × Int) (hD : ∀ W, Calls Tryz.prog 52 #[.string p, .int .i64 line, .string s] W fun e w' => e = two2 r ∧ Ext W w') :
    Calls Tryz.prog 51 #[.string p, .pointer (some ⟨c, 0, none⟩), .pointer (some ⟨d, 0, none⟩)] w fun e w' => e = two2 r ∧ Ext w w' := by
  obtain ⟨a, b⟩ := r
  simp only [two2] at hD ⊢
  go_enter Tryz.func51, Tryz.ntmps51
  go_wp2_with (go_at_call 52; refine (hD _).mono ?_; rintro e w1 ⟨rfl, hx1⟩)
  go_ret2
  exact ⟨rfl, hx1⟩
theorem replF_any (d : Nat) (s p : ByteArray) (w : World) (hd : w.cell? ⟨d, 0, none⟩ = some (.string s)) :
    Calls Tryz.prog 88 #[.string p, .pointer (some ⟨d, 0, none⟩)] w fun e w' => e = two2 (s, 0) ∧ Ext w w' := by
  go_enter Tryz.func88, Tryz.ntmps88
  go_wp2
  go_ret2
  exact ⟨rfl, Ext.refl w⟩

section
variable (A g size cap : Nat) (l : List ByteArray) (lv : List UInt8) (x line : Int) (s : ByteArray) (w : World) (h : Sp w A g size l lv cap)
include h
theorem sdrop_no (hx : ¬ (0 ≤ x ∧ x < l.length)) :
    Calls Tryz.prog 14 #[.pointer (some ⟨A, 0, none⟩), .agg #[.int .i64 x, .int .i64 line]] w fun e w' => e = .returned (.int .i64 7) ∧ Ext w w' := by
  have hC := fun fv => change_no A g size cap l lv x fv (w.alloc (.cells #[.int .i64 x, .int .i64 line] 33)) (h.ext ((Ext.refl w).alloc _)) hx
  go_enter Tryz.func14, Tryz.ntmps14
  go_wp2_with (go_at_call 48; refine (hC _).mono ?_; rintro e w1 ⟨rfl, hx1⟩)
  go_ret
  exact ⟨rfl, ((Ext.refl w).alloc _).trans hx1⟩
theorem sdrop_in (q : Nat) (hq : q < l.length) (hx : x = q) (r : ByteArray × Int) (hD : ∀ W, Calls Tryz.prog 54 #[.string (nthB l q), .int .i64 line] W fun e w' => e = two2 r ∧ Ext W w') (hv : r.2 = 0 → ValidR r.1 ∧ r.1.size = size) :
    Calls Tryz.prog 14 #[.pointer (some ⟨A, 0, none⟩), .agg #[.int .i64 x, .int .i64 line]] w fun e w' => e = .returned (.int .i64 r.2) ∧ (∃ lv', Sp w' A g size (newPages l q r) lv' cap) ∧ Chg A g w w' := by
  subst hx
  have hbx := addr_box (w := w) (.int .i64 (q : Int)) (.int .i64 line) (Ext.refl _)
  have hC := change_in A g size cap l lv q 53 #[.pointer (some ⟨w.heap.size, 0, none⟩)] (w.alloc (.cells #[.int .i64 (q : Int), .int .i64 line] 33)) (h.ext ((Ext.refl w).alloc _)) hq r
    (enters_of Tryz.func53 (by kernel_rfl) rfl) (dropF_any w.heap.size q line _ _ hbx.2.1 r hD) hv
  clear hbx
  go_enter Tryz.func14, Tryz.ntmps14
  go_wp2_with (go_at_call 48; refine hC.mono ?_; rintro e w1 ⟨rfl, hS, hc⟩)
  go_ret
  exact ⟨rfl, hS, (Chg.of_ext ((Ext.refl w).alloc _)).trans hc⟩
theorem sset_no (hs : s.toList ≠ []) (hx : ¬ (0 ≤ x ∧ x < l.length)) :
    Calls Tryz.prog 12 #[.pointer (some ⟨A, 0, none⟩), .agg #[.int .i64 x, .int .i64 line], .string s] w fun e w' => e = .returned (.int .i64 7) ∧ Ext w w' := by
  have d3 : s.toList.isEmpty = false := by simpa using hs
  clear hs
  have hx2 := ((Ext.refl w).alloc (.cells #[.int .i64 x, .int .i64 line] 33)).alloc (.cells #[.string s] 9)
  have hC := fun fv => change_no A g size cap l lv x fv _ (h.ext hx2) hx
  go_enter Tryz.func12, Tryz.ntmps12
  go_wp2_with (go_at_call 48; refine (hC _).mono ?_; rintro e w1 ⟨rfl, hx1⟩)
  go_ret
  exact ⟨rfl, hx2.trans hx1⟩
theorem sset_in (hs : s.toList ≠ []) (q : Nat) (hq : q < l.length) (hx : x = q) (r : ByteArray × Int) (hD : ∀ W, Calls Tryz.prog 50 #[.string (nthB l q), .int .i64 line, .string s] W fun e w' => e = two2 r ∧ Ext W w') (hv : r.2 = 0 → ValidR r.1 ∧ r.1.size = size) :
    Calls Tryz.prog 12 #[.pointer (some ⟨A, 0, none⟩), .agg #[.int .i64 x, .int .i64 line], .string s] w fun e w' => e = .returned (.int .i64 r.2) ∧ (∃ lv', Sp w' A g size (newPages l q r) lv' cap) ∧ Chg A g w w' := by
  subst hx
  have d3 : s.toList.isEmpty = false := by simpa using hs
  clear hs
  have hx2 := ((Ext.refl w).alloc (.cells #[.int .i64 (q : Int), .int .i64 line] 33)).alloc (.cells #[.string s] 9)
  have hbx := addr_box (w := w) (.int .i64 (q : Int)) (.int .i64 line) ((Ext.refl _).alloc (.cells #[.string s] 9))
  have hsx : ((w.alloc (.cells #[.int .i64 (q : Int), .int .i64 line] 33)).alloc (.cells #[.string s] 9)).cell? ⟨w.heap.size + 1, 0, none⟩ = some (.string s) := by
    have := Boxed.new (w.alloc (.cells #[.int .i64 (q : Int), .int .i64 line] 33)) 9 (.string s)
    rw [World.size_alloc] at this
    exact this.cell
  have hC := change_in A g size cap l lv q 49 #[.pointer (some ⟨w.heap.size, 0, none⟩), .pointer (some ⟨w.heap.size + 1, 0, none⟩)] _ (h.ext hx2) hq r
    (enters_of Tryz.func49 (by kernel_rfl) rfl) (setF_any w.heap.size (w.heap.size + 1) line s _ _ hbx.2.1 hsx r hD) hv
  clear hbx hsx
  go_enter Tryz.func12, Tryz.ntmps12
  go_wp2_with (go_at_call 48; refine hC.mono ?_; rintro e w1 ⟨rfl, hS, hc⟩)
  go_ret
  exact ⟨rfl, hS, (Chg.of_ext hx2).trans hc⟩
theorem sputAt_no (hs : s.toList ≠ []) (hx : ¬ (0 ≤ x ∧ x < l.length)) :
    Calls Tryz.prog 13 #[.pointer (some ⟨A, 0, none⟩), .agg #[.int .i64 x, .int .i64 line], .string s] w fun e w' => e = .returned (.int .i64 7) ∧ Ext w w' := by
  have d3 : s.toList.isEmpty = false := by simpa using hs
  clear hs
  have hx2 := ((Ext.refl w).alloc (.cells #[.int .i64 x, .int .i64 line] 33)).alloc (.cells #[.string s] 9)
  have hC := fun fv => change_no A g size cap l lv x fv _ (h.ext hx2) hx
  go_enter Tryz.func13, Tryz.ntmps13
  go_wp2_with (go_at_call 48; refine (hC _).mono ?_; rintro e w1 ⟨rfl, hx1⟩)
  go_ret
  exact ⟨rfl, hx2.trans hx1⟩
theorem sputAt_in (hs : s.toList ≠ []) (q : Nat) (hq : q < l.length) (hx : x = q) (r : ByteArray × Int) (hD : ∀ W, Calls Tryz.prog 52 #[.string (nthB l q), .int .i64 line, .string s] W fun e w' => e = two2 r ∧ Ext W w') (hv : r.2 = 0 → ValidR r.1 ∧ r.1.size = size) :
    Calls Tryz.prog 13 #[.pointer (some ⟨A, 0, none⟩), .agg #[.int .i64 x, .int .i64 line], .string s] w fun e w' => e = .returned (.int .i64 r.2) ∧ (∃ lv', Sp w' A g size (newPages l q r) lv' cap) ∧ Chg A g w w' := by
  subst hx
  have d3 : s.toList.isEmpty = false := by simpa using hs
  clear hs
  have hx2 := ((Ext.refl w).alloc (.cells #[.int .i64 (q : Int), .int .i64 line] 33)).alloc (.cells #[.string s] 9)
  have hbx := addr_box (w := w) (.int .i64 (q : Int)) (.int .i64 line) ((Ext.refl _).alloc (.cells #[.string s] 9))
  have hsx : ((w.alloc (.cells #[.int .i64 (q : Int), .int .i64 line] 33)).alloc (.cells #[.string s] 9)).cell? ⟨w.heap.size + 1, 0, none⟩ = some (.string s) := by
    have := Boxed.new (w.alloc (.cells #[.int .i64 (q : Int), .int .i64 line] 33)) 9 (.string s)
    rw [World.size_alloc] at this
    exact this.cell
  have hC := change_in A g size cap l lv q 51 #[.pointer (some ⟨w.heap.size, 0, none⟩), .pointer (some ⟨w.heap.size + 1, 0, none⟩)] _ (h.ext hx2) hq r
    (enters_of Tryz.func51 (by kernel_rfl) rfl) (putAtF_any w.heap.size (w.heap.size + 1) line s _ _ hbx.2.1 hsx r hD) hv
  clear hbx hsx
  go_enter Tryz.func13, Tryz.ntmps13
  go_wp2_with (go_at_call 48; refine hC.mono ?_; rintro e w1 ⟨rfl, hS, hc⟩)
  go_ret
  exact ⟨rfl, hS, (Chg.of_ext hx2).trans hc⟩
end
theorem sset_empty (A : Nat) (x line : Int) (s : ByteArray) (w : World) (hs : s.toList = []) :
    Calls Tryz.prog 12 #[.pointer (some ⟨A, 0, none⟩), .agg #[.int .i64 x, .int .i64 line], .string s] w fun e w' => e = .returned (.int .i64 1) ∧ Ext w w' := by
  go_enter Tryz.func12, Tryz.ntmps12
  go_wp2
  go_ret
  exact ⟨rfl, ((Ext.refl w).alloc _).alloc _⟩
theorem sputAt_empty (A : Nat) (x line : Int) (s : ByteArray) (w : World) (hs : s.toList = []) :
    Calls Tryz.prog 13 #[.pointer (some ⟨A, 0, none⟩), .agg #[.int .i64 x, .int .i64 line], .string s] w fun e w' => e = .returned (.int .i64 1) ∧ Ext w w' := by
  go_enter Tryz.func13, Tryz.ntmps13
  go_wp2
  go_ret
  exact ⟨rfl, ((Ext.refl w).alloc _).alloc _⟩
end
end Go.Proofs.YtnileonlabpbpaaGreat
