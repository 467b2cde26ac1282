/- SpD; SpE; SpF; PcS; PcB (merged by group.py) -/
import Derived.Test.YtcbainmpikcfjaaQ09
import Derived.Test.YtcbainmpikcfjaaQ01
import Derived.Lib.AppendStr
import Derived.Lib.SlBytesConst
import Derived.Deep.RegionLawGrows
import Derived.Test.YtcbainmpikcfjaaQ00
namespace Go.Proofs.Ytcbainmpikcfjaa
section
open Go.RowKit
set_option linter.unusedVariables false
set_option maxRecDepth 20000
set_option maxRecDepth 20000

/-- a page without lines -/
noncomputable def newP (size : Nat) : ByteArray := (filledRes size 0 fun _ => (0, ⟨#[]⟩)).1
theorem newP_ok (size : Nat) (hz : sizeB (size : Int) = true) : ValidR (newP size) ∧ (newP size).size = size ∧ cnt (newP size) = 0 ∧ (fillRes size 0 fun _ => (0, ⟨#[]⟩)) = (newP size, 0) := by
  have hz' : 32 ≤ size ∧ size ≤ 4096 := by simp [sizeB] at hz; omega
  have hg : ¬ AnyBad (fun _ => ((0, ⟨#[]⟩) : Cel)) 0 := fun ⟨i, hi, _⟩ => by omega
  have hr : ¬ roomF size (fun _ => ((0, ⟨#[]⟩) : Cel)) 0 < 0 := by simp [roomF, lastF, bytesF]; omega
  have h0 : (filledRes size 0 fun _ => ((0, ⟨#[]⟩) : Cel)).2 = 0 := by unfold filledRes; rw [if_neg hr]
  obtain ⟨e1, e2, e3, _⟩ := filled_valid size 0 _ hg hz h0
  refine ⟨e2, e1, e3, ?_⟩
  unfold fillRes newP filledRes
  rw [if_neg hg, hz]
  simp [hr]

theorem Try.infoS : (Try.prog.info? 9).map (fun i => (i.zero, i.size, i.bytes)) = some (some (.string ⟨#[]⟩), 1, 16) := by kernel_rfl
/-- append of one text -/
theorem append_str (w : World) (base : Nat) (v : Value) (l : List ByteArray) (p : ByteArray) (hown : w.ownsRow base 9 1 v l.length (l.map .string)) (hn : l.length ≤ 1024) (hbase : base ≤ w.heap.size) :
    ∃ v' w', (Builtin.append_ #[23, 23] 23 #[v, .slice (some ⟨w.heap.size, 0, none⟩) 1 1]).run Try.prog (w.alloc (.cells #[.string p] 9)) = .ok v' w' ∧ w'.ownsRow base 9 1 v' (l ++ [p]).length ((l ++ [p]).map .string) ∧
      (w.alloc (.cells #[.string p] 9)).grownBy w' v.ownBlock := by
  obtain ⟨i0, hi, hz0, hz1, hz2⟩ := info_parts Try.infoS
  obtain ⟨v', w', h1, h2, h3, _⟩ := run_append_own_at (P := Try.prog) (w.alloc (.cells #[.string p] 9)) base 23 23 9 i0 _ 1 16 Try.underlying23 hi hz0 hz1 hz2 rfl (by decide) v l.length (l.map .string) (ownsRow_ext hown ((Ext.refl w).alloc _)) ⟨w.heap.size, 0, none⟩ 1 1 [.string p] rfl
    (fun j u hj => by
      match j, hj with
      | 0, hj => simp at hj; subst hj; simp [Addr.add]) (by simp [Value.oneCell']) (by simp only [maxLen]; omega) (by omega) (by simp; omega)
  refine ⟨v', w', h1, ?_, h3⟩
  simpa using h2

theorem zero_area : Try.zeroCells66 = ((List.replicate 200 (0 : UInt8)).map (fun b : UInt8 => Value.int .u8 b.toNat) ++ [Value.int .i64 0, Value.slice none 0 0]).toArray := by kernel_rfl
theorem newArea_arB (w : World) (size : Nat) : ArB (w.alloc (.cells (Try.zeroCells66.setIfInBounds 200 (.int .i64 size)) 66)) w.heap.size (List.replicate 200 0) size (.slice none 0 0) := by
  refine ⟨?_, by simp⟩
  rw [World.alloc_heap_new, zero_area]
  congr 2

theorem newArea_no (size pages : Int) (w : World) (h0 : -9223372036854775808 ≤ size ∧ size ≤ 9223372036854775807) (hn : ¬ (sizeB size = true ∧ 1 ≤ pages ∧ pages ≤ 200)) :
    Calls Try.prog 17 #[.int .i64 size, .int .i64 pages] w fun e w' => e = .returned (.tuple #[.pointer none, .int .i64 7]) ∧ Ext w w' := by
  have hN := fun W => new_any size W h0.1 h0.2
  by_cases hz : sizeB size = true
  · obtain ⟨m, rfl⟩ : ∃ m : Nat, size = m := ⟨size.toNat, by simp [sizeB] at hz; omega⟩
    obtain ⟨_, _, _, e⟩ := newP_ok m hz
    rw [e] at hN
    simp only at hN
    by_cases hp : pages < 1
    · go_enter Try.func17, Try.ntmps17
      go_wp2_with (go_at_call 24; refine (hN _).mono ?_; rintro e w1 ⟨rfl, hx1⟩)
      go_ret2
      exact ⟨rfl, hx1⟩
    · have hp2 : 200 < pages := by
        apply Classical.byContradiction
        intro h
        exact hn ⟨hz, by omega, by omega⟩
      go_enter Try.func17, Try.ntmps17
      go_wp2_with (go_at_call 24; refine (hN _).mono ?_; rintro e w1 ⟨rfl, hx1⟩)
      go_ret2
      exact ⟨rfl, hx1⟩
  · have e : (fillRes size 0 fun _ => ((0, ⟨#[]⟩) : Cel)) = (⟨#[]⟩, 7) := by
      have hA : ¬ AnyBad (fun _ => ((0, ⟨#[]⟩) : Cel)) 0 := fun ⟨i, hi, _⟩ => by omega
      have hz' : sizeB size = false := by simpa using hz
      simp [fillRes, hA, hz']
    rw [e] at hN
    go_enter Try.func17, Try.ntmps17
    go_wp2_with (go_at_call 24; refine (hN _).mono ?_; rintro e w1 ⟨rfl, hx1⟩)
    go_ret2
    exact ⟨rfl, hx1⟩

/-- an area that is being built: k pages so far -/
structure Bld (w : World) (A : Nat) (size : Nat) (l : List ByteArray) (lv : List UInt8) (v : Value) : Prop where
  ar : ArB w A lv size v
  own : w.ownsRow (A + 1) 9 1 v l.length (l.map .string)
  lev : ∀ i, i < l.length → nthL lv i = UInt8.ofNat (levP size (nthB l i))
theorem nthB_append (l : List ByteArray) (p : ByteArray) (i : Nat) (h : i ≤ l.length) : nthB (l ++ [p]) i = if i < l.length then nthB l i else p := by
  unfold nthB
  simp only [List.getD_eq_getElem?_getD]
  by_cases hi : i < l.length
  · rw [if_pos hi, List.getElem?_append_left hi]
  · rw [if_neg hi, List.getElem?_append_right (by omega)]
    have : i - l.length = 0 := by omega
    simp [this]
theorem nthL_set (lv : List UInt8) (k i : Nat) (b : UInt8) (hk : k < lv.length) : nthL (lv.set k b) i = if i = k then b else nthL lv i := by
  unfold nthL
  simp only [List.getD_eq_getElem?_getD, List.getElem?_set]
  by_cases h : k = i
  · subst h; simp [hk]
  · rw [if_neg h, if_neg (fun e => h e.symm)]
theorem nthB_replicate (n i : Nat) (p : ByteArray) (h : i < n) : nthB (List.replicate n p) i = p := by
  unfold nthB
  simp [List.getD_eq_getElem?_getD, h]
theorem own_slice {w : World} {base : Nat} {v : Value} {l : List ByteArray} (h : w.ownsRow base 9 1 v l.length (l.map .string)) (hl : 1 ≤ l.length) : ∃ g cap, v = .slice (some ⟨g, 0, none⟩) l.length cap ∧ base ≤ g ∧ g < w.heap.size := by
  rcases h.2 with ⟨_, h0⟩ | ⟨g, cap, cur, hv, hb, hg, _⟩
  · omega
  · exact ⟨g, cap, hv, hb, (Array.getElem?_eq_some_iff.1 hg).1⟩

theorem own_slice' {w : World} {base n : Nat} {v : Value} {l : List ByteArray} (hl : l.length = n) (h : w.ownsRow base 9 1 v n (l.map .string)) (h1 : 1 ≤ n) : ∃ g cap, v = .slice (some ⟨g, 0, none⟩) n cap ∧ base ≤ g ∧ g < w.heap.size := by
  subst hl
  exact own_slice h h1
theorem slS_of_row' {w : World} {base g n cap : Nat} {l : List ByteArray} (hl : l.length = n) (h : w.ownsRow base 9 1 (.slice (some ⟨g, 0, none⟩) n cap) n (l.map .string)) : SlS w (some ⟨g, 0, none⟩) l := by
  subst hl
  exact slS_of_row h

set_option maxHeartbeats 2000000 in
theorem newArea_yes (size : Nat) (pages : Nat) (w : World) (hz : sizeB (size : Int) = true) (h1 : 1 ≤ pages) (h2 : pages ≤ 200) :
    Calls Try.prog 17 #[.int .i64 size, .int .i64 pages] w fun e w' => ∃ A g lv cap, e = .returned (.tuple #[.pointer (some ⟨A, 0, none⟩), .int .i64 0]) ∧ Sp w' A g size (List.replicate pages (newP size)) lv cap ∧ w.heap.size ≤ A ∧ w.heap.size ≤ g ∧ Ext w w' := by
  have hz' : 32 ≤ size ∧ size ≤ 4096 := by simp [sizeB] at hz; omega
  obtain ⟨pv, pz, _, e⟩ := newP_ok size hz
  have hN := fun W => new_any size W (by omega) (by omega)
  rw [e] at hN
  simp only at hN
  clear e
  have c1 : ¬ (pages : Int) < 1 := by omega
  have c2 : ¬ 200 < (pages : Int) := by omega
  generalize newP size = p at *
  go_enter Try.func17, Try.ntmps17
  go_wp2_with (go_at_call 24; refine (hN _).mono ?_; rintro e w1 ⟨rfl, hx1⟩)
  have hnew := newArea_arB w1 size
  have hx2 := hx1.alloc (.cells (Try.zeroCells66.setIfInBounds 200 (.int .i64 size)) 66)
  have hs2 : (w1.alloc (.cells (Try.zeroCells66.setIfInBounds 200 (.int .i64 size)) 66)).heap.size = w1.heap.size + 1 := by simp
  have hA1 := hx1.size
  generalize w1.alloc (.cells (Try.zeroCells66.setIfInBounds 200 (.int .i64 size)) 66) = W2 at *
  generalize w1.heap.size = A at *
  go_loopw [29, 9] (fun i _ wr => ∃ k : Nat, k ≤ pages ∧ i = .int .i64 k ∧ (∃ lv v, Bld wr A size (List.replicate k p) lv v) ∧ Ext w wr ∧ A + 1 ≤ wr.heap.size) (fun i _ _ => pages - (intOf i).toNat)
  case atStart => exact ⟨0, by omega, rfl, ⟨_, _, hnew, World.ownsRow_nil _ _ _ _, fun i hi => by simp at hi⟩, hx2, by omega⟩
  case round =>
    obtain ⟨k, hk, rfl, ⟨lv, v, hB⟩, hx, hsz⟩ := hrel
    by_cases hlt : k < pages
    · have hll := hB.ar.len
      have d1 := hB.ar.pagesC
      have hAl := hB.ar.lt
      obtain ⟨v', w5, hr, ho5, hg5⟩ := append_str wr (A + 1) v (List.replicate k p) p hB.own (by simp; omega) hsz
      obtain ⟨L, hL⟩ : ∃ L, List.replicate k p ++ [p] = L := ⟨_, rfl⟩
      rw [hL] at ho5
      have hLn : L.length = k + 1 := by rw [← hL]; simp
      have hLr : L = List.replicate (k + 1) p := by rw [← hL, List.replicate_succ']
      rw [hLn] at ho5
      have hvb : v.ownBlock ≠ some A := fun h => by have := (hB.own.lt A h).1; omega
      have hA5 : ArB w5 A lv size v := (hB.ar.ext ((Ext.refl wr).alloc (.cells #[.string p] 9))).same (hg5.block A (by simp; omega) (fun h => hvb h.symm))
      have hx5 : Ext w w5 := Below.grown (hx.alloc (.cells #[.string p] 9)) hg5 (hx.alloc _).size (fun j hj => by have := (hB.own.lt j hj).1; omega)
      have d5 := hA5.pagesC
      have f5 := hA5.free 201
      have hA6 := hA5.setPages v'
      have hu6 : Upd w5 A (w5.setCell ⟨A, 201, none⟩ v') := Upd.setCell _ _ _ _
      have ho6 := ownsRow_upd ho5 hu6 (Nat.lt_succ_self A)
      obtain ⟨g, cap, rfl, hgb, hgl⟩ := own_slice' hLn ho6 (by omega)
      have hs6 : A + 1 ≤ (w5.setCell ⟨A, 201, none⟩ (.slice (some ⟨g, 0, none⟩) (k + 1) cap)).heap.size := Nat.le_trans hgb (by omega)
      have hnth : nthB L k = p := by rw [hLr, nthB_replicate _ _ _ (by omega)]
      have hNt := noted_any A lv size _ (k + 1) cap L k _ hA6 (slS_of_row' hLn ho6) hLn (by omega) (by omega) (by rw [hnth]; exact pv) (by rw [hnth]; exact pz)
      rw [hnth] at hNt
      have hx6 : Ext w (w5.setCell ⟨A, 201, none⟩ (.slice (some ⟨g, 0, none⟩) (k + 1) cap)) := Upd.ext hx5 hu6 (by omega)
      clear hnth hA6 hu6
      have HLn := Lib.hid hLn
      have HLr := Lib.hid hLr
      clear hLn hLr hL
      go_wp2_with (first
        | (at_builtin; refine Lib.wpList_append_run _ rfl _ _ _ _ rfl _ _ rfl rfl _ _ hr ?_)
        | (go_at_call 25; refine hNt.mono ?_; rintro e w7 ⟨rfl, hA7, hu7⟩))
      have ho7 := ownsRow_upd ho6 hu7 (Nat.lt_succ_self A)
      refine ⟨⟨k + 1, by omega, by go_num, ⟨_, _, hA7, by rw [← HLr.out, HLn.out]; exact ho7, fun i hi => ?_⟩, Upd.ext hx6 hu7 (by omega), Nat.le_trans hs6 hu7.size⟩, by simp [intOf]; omega⟩
      rw [List.length_replicate] at hi
      rw [nthL_set _ _ _ _ (by omega), nthB_replicate _ _ _ hi]
      by_cases hik : i = k
      · rw [if_pos hik]
      · rw [if_neg hik, hB.lev i (by simp; omega), nthB_replicate _ _ _ (by omega)]
    · obtain rfl : k = pages := by omega
      go_wp2
      go_ret2
      obtain ⟨g, cap, rfl, hgb, hgl⟩ := own_slice hB.own (by simp; omega)
      refine ⟨A, g, lv, cap, rfl, ⟨hB.ar, ownsRow_base hB.own (Nat.zero_le _), by omega, hB.lev, fun i hi => ?_, by simp; omega, by simp; omega, hz⟩, by omega, by omega, hx⟩
      rw [List.length_replicate] at hi
      rw [nthB_replicate _ _ _ hi]
      exact ⟨pv, pz⟩
end
section
open Go.RowKit
set_option linter.unusedVariables false
set_option maxRecDepth 20000
set_option maxRecDepth 20000

/-- Only the blocks A and g have changed (and new blocks may be there). -/
structure Chg (A g : Nat) (w w' : World) : Prop where
  os : w'.os = w.os
  tape : w'.tape = w.tape
  output : w'.output = w.output
  size : w.heap.size ≤ w'.heap.size
  block : ∀ k, k < w.heap.size → k ≠ A → k ≠ g → w'.heap[k]? = w.heap[k]?
theorem Chg.of_ext {A g : Nat} {w w' : World} (h : Ext w w') : Chg A g w w' := ⟨h.os, h.tape, h.output, h.size, fun k hk _ _ => h.block hk⟩
theorem Chg.of_a {A g : Nat} {w w' : World} (h : Upd w A w') : Chg A g w w' := ⟨h.os, h.tape, h.output, h.size, fun k hk hA _ => h.block k hk (fun e => hA (by injection e))⟩
theorem Chg.of_g {A g : Nat} {w w' : World} (h : Upd w g w') : Chg A g w w' := ⟨h.os, h.tape, h.output, h.size, fun k hk _ hg => h.block k hk (fun e => hg (by injection e))⟩
theorem Chg.trans {A g : Nat} {a b c : World} (h : Chg A g a b) (k : Chg A g b c) : Chg A g a c :=
  ⟨k.os.trans h.os, k.tape.trans h.tape, k.output.trans h.output, Nat.le_trans h.size k.size, fun i hi hA hg => (k.block i (Nat.lt_of_lt_of_le hi h.size) hA hg).trans (h.block i hi hA hg)⟩
theorem Chg.ext {A g : Nat} {a b c : World} (h : Ext a b) (k : Chg A g b c) (hA : a.heap.size ≤ A) (hg : a.heap.size ≤ g) : Ext a c :=
  Ext.trans (Ext.refl a) ⟨k.os.trans h.os, k.tape.trans h.tape, k.output.trans h.output, Nat.le_trans h.size k.size, fun i hi => (k.block i (Nat.lt_of_lt_of_le hi h.size) (by omega) (by omega)).trans (h.block hi)⟩

theorem nthB_set (l : List ByteArray) (n i : Nat) (p : ByteArray) (hn : n < l.length) : nthB (l.set n p) i = if i = n then p else nthB l i := by
  unfold nthB
  simp only [List.getD_eq_getElem?_getD, List.getElem?_set]
  by_cases h : n = i
  · subst h; simp [hn]
  · rw [if_neg h, if_neg (fun e => h e.symm)]

theorem sp_store {w : World} {A g size cap : Nat} {l : List ByteArray} {lv : List UInt8} (h : Sp w A g size l lv cap) (n : Nat) (hn : n < l.length) (p : ByteArray) (hv : ValidR p) (hz : p.size = size) :
    Calls Try.prog 25 #[.pointer (some ⟨A, 0, none⟩), .int .i64 n] (w.setCell ⟨g, n, none⟩ (.string p)) fun e w' =>
      e = .returned (.tuple #[]) ∧ (∃ lv', Sp w' A g size (l.set n p) lv' cap) ∧ Chg A g w w' := by
  have hle := h.le
  have hA := h.ar.same (Below.heap_setCell w ⟨g, n, none⟩ (.string p) A h.ne)
  have ho := (h.own.stored n (.string p)).1
  rw [← List.map_set] at ho
  have hll := h.ar.len
  have hlen : (l.set n p).length = l.length := by simp
  have hs := slS_of_row' hlen ho
  have hnth : nthB (l.set n p) n = p := by rw [nthB_set _ _ _ _ hn, if_pos rfl]
  refine (noted_any A lv size _ l.length cap (l.set n p) n _ hA hs hlen hn (by omega) (by rw [hnth]; exact hv) (by rw [hnth]; exact hz)).mono ?_
  rintro e w' ⟨he, h1, h2⟩
  refine ⟨he, ⟨_, by rw [hlen]; exact h1, ?_, h.ne, fun i hi => ?_, fun i hi => ?_, by rw [hlen]; exact h.pos, by rw [hlen]; exact h.le, h.sz⟩, (Chg.of_g (Upd.setCell _ _ _ _)).trans (Chg.of_a h2)⟩
  · rw [hlen]
    refine ⟨ho.1, ?_⟩
    rcases ho.2 with h0 | ⟨g', cap', cur, hv', hb, hg, rest⟩
    · exact .inl h0
    · refine .inr ⟨g', cap', cur, hv', hb, h2.heap hg ?_, rest⟩
      simp only [Value.slice.injEq, Option.some.injEq, Addr.mk.injEq, and_true, true_and] at hv'
      rw [← hv'.1]
      exact fun e => h.ne e.symm
  · rw [hlen] at hi
    rw [nthL_set _ _ _ _ (by omega), hnth]
    by_cases hin : i = n
    · rw [if_pos hin, hin, hnth]
    · rw [if_neg hin, nthB_set _ _ _ _ hn, if_neg hin, h.lev i hi]
  · rw [hlen] at hi
    rw [nthB_set _ _ _ _ hn]
    by_cases hin : i = n
    · rw [if_pos hin]; exact ⟨hv, hz⟩
    · rw [if_neg hin]; exact h.good i hi

/-- a page that holds the bytes takes them -/
theorem put_holds (p s : ByteArray) (hv : ValidR p) (hs : s.toList ≠ []) (hs2 : s.size ≤ 140737488355328) (hh : holdsB p s.size = true) :
    ∃ q : ByteArray, ∃ line : Int, ValidR q ∧ q.size = p.size ∧ (∀ w, Calls Try.prog 41 #[.string p, .string s] w fun e w' => e = put3 (q, line, 0) ∧ Ext w w') ∧
      putRes p.size (cnt p) (cel p) (Classical.choose (pos_of (cel_good hv) (nextF (cel p) (cnt p)))) s = (q, line, 0) := by
  have hG := cel_good hv
  have hp := Classical.choose_spec (pos_of hG (nextF (cel p) (cnt p)))
  generalize Classical.choose (pos_of (cel_good hv) (nextF (cel p) (cnt p))) = pos at *
  have hs0 : 0 < s.size := by have h := hs; rw [ne_eq, toList_nil] at h; omega
  have hge := (nextI hG _ (Nat.le_refl _)).ge
  unfold holdsB topLine at hh
  simp only [Bool.and_eq_true, decide_eq_true_eq] at hh
  have hroom := roomF_ins hp (by omega) s p.size
  have hr : ¬ roomF p.size (insF (cel p) pos (nextF (cel p) (cnt p), s)) (cnt p + 1) < 0 := by
    rw [hroom]
    omega
  have e : putRes p.size (cnt p) (cel p) pos s = ((filledRes p.size (cnt p + 1) (insF (cel p) pos (nextF (cel p) (cnt p), s))).1, ((nextF (cel p) (cnt p) : Nat) : Int), 0) := by
    unfold putRes filledRes
    rw [if_pos hh.1, if_neg hr]
    simp only [hr, if_false]
  obtain ⟨e1, e2, _, _⟩ := filled_valid p.size (cnt p + 1) _ (ins_good hG hp ⟨by omega, by omega⟩ (next_miss hG) s hs0) hv.1.1 (by unfold filledRes; rw [if_neg hr])
  refine ⟨_, _, e2, e1, fun w => ?_, e⟩
  rw [← e]
  exact put_ok p s w hv hs hs2 pos hp

theorem Chg.setNew {A g : Nat} {w w' : World} (h : Chg A g w w') {p : Addr} (hp : w.heap.size ≤ p.block) (v : Value) : Chg A g w (w'.setCell p v) :=
  ⟨h.os, h.tape, h.output, by simpa [World.setCell] using h.size, fun k hk hA hg => (Below.heap_setCell _ _ _ k (by omega)).trans (h.block k hk hA hg)⟩
theorem Sp.same {w w' : World} {A g size cap : Nat} {l : List ByteArray} {lv : List UInt8} (h : Sp w A g size l lv cap) (hA : w'.heap[A]? = w.heap[A]?) (hg : w'.heap[g]? = w.heap[g]?) : Sp w' A g size l lv cap := by
  refine ⟨h.ar.same hA, ⟨h.own.1, ?_⟩, h.ne, h.lev, h.good, h.pos, h.le, h.sz⟩
  rcases h.own.2 with h0 | ⟨g', cap', cur, hv', hb, hgh, rest⟩
  · exact .inl h0
  · refine .inr ⟨g', cap', cur, hv', hb, ?_, rest⟩
    simp only [Value.slice.injEq, Option.some.injEq, Addr.mk.injEq, and_true, true_and] at hv'
    rw [← hv'.1, hg, hv'.1]
    exact hgh
theorem Sp.gl {w : World} {A g size cap : Nat} {l : List ByteArray} {lv : List UInt8} (h : Sp w A g size l lv cap) : g < w.heap.size := (h.own.lt g rfl).2
theorem Sp.setFar {w : World} {A g size cap : Nat} {l : List ByteArray} {lv : List UInt8} (h : Sp w A g size l lv cap) {p : Addr} (hA : A ≠ p.block) (hg : g ≠ p.block) (v : Value) : Sp (w.setCell p v) A g size l lv cap :=
  h.same (Below.heap_setCell _ _ _ A hA) (Below.heap_setCell _ _ _ g hg)
theorem nthCell {w : World} {A g size cap : Nat} {l : List ByteArray} {lv : List UInt8} (h : Sp w A g size l lv cap) (q : Nat) (hq : q < l.length) : w.cell? ⟨g, q, none⟩ = some (.string (nthB l q)) := by
  obtain ⟨b', off, e, hc⟩ := h.sls.at_ q hq
  simp only [Option.some.injEq, Addr.mk.injEq, and_true] at e
  obtain ⟨rfl, rfl⟩ := e
  simpa using hc
theorem addr_cells {w : World} {k : Nat} {x y : Value} {t : TypeId} (hb : w.heap[k]? = some (.cells #[x, y] t (0, 0))) :
    w.cell? ⟨k, 0, none⟩ = some x ∧ w.cell? ⟨k, 1, none⟩ = some y ∧ w.frozen? ⟨k, 0, none⟩ = false ∧ w.frozen? ⟨k, 1, none⟩ = false :=
  ⟨by simp [World.cell?, hb], by simp [World.cell?, hb], by simp [World.frozen?, hb], by simp [World.frozen?, hb]⟩
theorem addr_box {w w1 : World} (x y : Value) (hx : Ext (w.alloc (.cells #[x, y] 38)) w1) :
    w1.cell? ⟨w.heap.size, 0, none⟩ = some x ∧ w1.cell? ⟨w.heap.size, 1, none⟩ = some y ∧ w1.frozen? ⟨w.heap.size, 0, none⟩ = false ∧ w1.frozen? ⟨w.heap.size, 1, none⟩ = false := by
  have hb := hx.heap (World.alloc_heap_new w (.cells #[x, y] 38))
  refine ⟨by simp [World.cell?, hb], by simp [World.cell?, hb], by simp [World.frozen?, hb], by simp [World.frozen?, hb]⟩
theorem sput_empty (A : Nat) (near : Int) (s : ByteArray) (w : World) (hs : s.toList = []) :
    Calls Try.prog 30 #[.pointer (some ⟨A, 0, none⟩), .int .i64 near, .string s] w fun e w' => e = .returned (.tuple #[.agg #[.int .i64 0, .int .i64 0], .int .i64 1]) ∧ Ext w w' := by
  go_enter Try.func30, Try.ntmps30
  go_wp2
  exact bodyPost_ret (v := .tuple #[.agg #[.int .i64 0, .int .i64 0], .int .i64 1]) (by simp [results, Try.results30, go_sem]) rfl ⟨rfl, ((Ext.refl w).alloc _)⟩
section
variable (A g size cap : Nat) (l : List ByteArray) (lv : List UInt8) (near : Int) (s : ByteArray) (w : World) (h : Sp w A g size l lv cap)
include h
theorem sput_no (hs : s.toList ≠ []) (c : Int) (hc : c ≠ 0) (hF : ∀ W, Sp W A g size l lv cap → Calls Try.prog 40 #[.pointer (some ⟨A, 0, none⟩), .int .i64 near, .int .i64 s.size] W fun e w' => e = .returned (.tuple #[.int .i64 0, .int .i64 c]) ∧ Ext W w') :
    Calls Try.prog 30 #[.pointer (some ⟨A, 0, none⟩), .int .i64 near, .string s] w fun e w' => e = .returned (.tuple #[.agg #[.int .i64 0, .int .i64 0], .int .i64 c]) ∧ Ext w w' := by
  have d3 : s.toList.isEmpty = false := by simpa using hs
  have d4 : (c == 0) = false := by simpa using hc
  have d5 : (c != 0) = true := by simpa using hc
  clear hs
  go_enter Try.func30, Try.ntmps30
  go_wp2_with (go_at_call 40; refine (hF _ (h.ext ((Ext.refl w).alloc _))).mono ?_; rintro e w1 ⟨rfl, hx1⟩; obtain ⟨r0, r1, f0, f1⟩ := addr_box _ _ hx1)
  exact bodyPost_ret (v := .tuple #[.agg #[.int .i64 0, .int .i64 0], .int .i64 c]) (by simp [results, Try.results30, go_sem, r0, r1]) rfl ⟨rfl, ((((Ext.refl w).alloc _).trans hx1).setCell (Nat.le_refl _) _).setCell (Nat.le_refl _) _⟩
theorem sput_yes (hs : s.toList ≠ []) (q : Nat) (hq : q < l.length) (hF : ∀ W, Sp W A g size l lv cap → Calls Try.prog 40 #[.pointer (some ⟨A, 0, none⟩), .int .i64 near, .int .i64 s.size] W fun e w' => e = .returned (.tuple #[.int .i64 q, .int .i64 0]) ∧ Ext W w')
    (p' : ByteArray) (line : Int) (hv' : ValidR p') (hz' : p'.size = size) (hP : ∀ W, Calls Try.prog 41 #[.string (nthB l q), .string s] W fun e w' => e = put3 (p', line, 0) ∧ Ext W w') :
    Calls Try.prog 30 #[.pointer (some ⟨A, 0, none⟩), .int .i64 near, .string s] w fun e w' => e = .returned (.tuple #[.agg #[.int .i64 q, .int .i64 line], .int .i64 0]) ∧ (∃ lv', Sp w' A g size (l.set q p') lv' cap) ∧ Chg A g w w' := by
  have d3 : s.toList.isEmpty = false := by simpa using hs
  simp only [put3] at hP
  clear hs
  have c1 : (q : Int) < l.length := by omega
  go_enter Try.func30, Try.ntmps30
  go_wp2_with (go_at_call 40; refine (hF _ (h.ext ((Ext.refl w).alloc _))).mono ?_; rintro e w1 ⟨rfl, hx1⟩; have hx1' := ((Ext.refl w).alloc _).trans hx1; have h1 := h.ext hx1'; have g1 := h1.ar.pagesC; have g2 := nthCell h1 q hq)
  refine (hP _).mono ?_
  rintro e w2 ⟨rfl, hx2⟩
  have hx2' := hx1'.trans hx2
  have h2 := h.ext hx2'
  have g3 := h2.ar.pagesC
  have g4 := nthCell h2 q hq
  have f4 := h2.own.frozenAt q
  have hAl := h.ar.lt
  have hgl := h.gl
  have hbx := hx2.heap (hx1.heap (World.alloc_heap_new w (.cells #[.int .i64 0, .int .i64 0] 38)))
  have hN := sp_store h2 q hq p' hv' hz'
  clear g1 g2 hx1' h1
  go_wp2_with (go_at_call 25; refine hN.mono ?_; rintro e w3 ⟨rfl, ⟨lv', hS⟩, hc⟩; have hb3 := (hc.block w.heap.size (Nat.lt_of_lt_of_le (by simp) (Nat.le_trans hx1.size hx2.size)) (by omega) (by omega)).trans hbx; obtain ⟨r0, r1, f0, f1⟩ := addr_cells hb3)
  exact bodyPost_ret (v := .tuple #[.agg #[.int .i64 q, .int .i64 line], .int .i64 0]) (by simp [results, Try.results30, go_sem, r0, r1]) rfl
    ⟨rfl, ⟨lv', (hS.setFar (by simp; omega) (by simp; omega) _).setFar (by simp; omega) (by simp; omega) _⟩, ((((Chg.of_ext hx2').trans hc).setNew (Nat.le_refl _) _).setNew (Nat.le_refl _) _)⟩
end
end
section
open Go.RowKit
set_option linter.unusedVariables false
set_option maxRecDepth 20000
set_option maxRecDepth 20000

section
variable (A g size cap : Nat) (l : List ByteArray) (lv : List UInt8) (x line : Int) (w : World) (h : Sp w A g size l lv cap)
include h
theorem sget_range (hx : ¬ (0 ≤ x ∧ x < l.length)) :
    Calls Try.prog 32 #[.pointer (some ⟨A, 0, none⟩), .agg #[.int .i64 x, .int .i64 line]] w fun e w' => e = two2 (⟨#[]⟩, 7) ∧ Ext w w' := by
  have hle := h.le
  have hA := fun W hW => asked_is A lv size (some ⟨g, 0, none⟩) l.length cap x W hW (by omega)
  rw [if_neg hx] at hA
  go_enter Try.func32, Try.ntmps32
  go_wp2_with (go_at_call 42; refine (hA _ (by exact (h.ext ((Ext.refl w).alloc _)).ar)).mono ?_; rintro e w1 ⟨rfl, rfl⟩)
  go_ret2
  exact ⟨rfl, (Ext.refl w).alloc _⟩
theorem sget_in (q : Nat) (hq : q < l.length) (hx : x = q) (r : ByteArray × Int) (hG : ∀ W, Calls Try.prog 43 #[.string (nthB l q), .int .i64 line] W fun e w' => e = two2 r ∧ Ext W w') :
    Calls Try.prog 32 #[.pointer (some ⟨A, 0, none⟩), .agg #[.int .i64 x, .int .i64 line]] w fun e w' => e = two2 r ∧ Ext w w' := by
  subst hx
  have hle := h.le
  have hA := fun W hW => asked_is A lv size (some ⟨g, 0, none⟩) l.length cap q W hW (by omega)
  rw [if_pos ⟨by omega, by omega⟩] at hA
  have c1 : (q : Int) < l.length := by omega
  have hxa := (Ext.refl w).alloc (.cells #[.int .i64 (q : Int), .int .i64 line] 38)
  have h1 := h.ext hxa
  obtain ⟨b0, b1, _, _⟩ := addr_box (.int .i64 (q : Int)) (.int .i64 line) (Ext.refl (w.alloc (.cells #[.int .i64 (q : Int), .int .i64 line] 38)))
  have g1 := h1.ar.pagesC
  have g2 := nthCell h1 q hq
  obtain ⟨ra, rb⟩ := r
  simp only [two2] at hG ⊢
  have hA1 := hA _ h1.ar
  generalize hW1 : w.alloc (.cells #[.int .i64 (q : Int), .int .i64 line] 38) = W1 at *
  go_enter Try.func32, Try.ntmps32
  go_wp2_with (go_at_call 42; refine hA1.mono ?_; rintro e w1 ⟨rfl, rfl⟩)
  go_region_held3 (fun w' => w'.cell? ⟨w.heap.size, 0, none⟩ = some (.int .i64 (q : Int)) ∧ w'.cell? ⟨w.heap.size, 1, none⟩ = some (.int .i64 line) ∧ w'.cell? ⟨A, 201, none⟩ = some (.slice (some ⟨g, 0, none⟩) l.length cap) ∧ w'.cell? ⟨g, q, none⟩ = some (.string (nthB l q))) (go_keep)
    (first | (go_at_call 43; refine (hG _).mono ?_; rintro e w5 ⟨rfl, hx5⟩; have m1 := hx5.cell (p := ⟨w.heap.size, 0, none⟩) (v := .int .i64 (q : Int)) (by exact b0); have m2 := hx5.cell (p := ⟨w.heap.size, 1, none⟩) (v := .int .i64 line) (by exact b1); have m3 := hx5.cell (p := ⟨A, 201, none⟩) (v := .slice (some ⟨g, 0, none⟩) l.length cap) (by exact g1); have m4 := hx5.cell (p := ⟨g, q, none⟩) (v := .string (nthB l q)) (by exact g2); have m5 := Ext.trans (Ext.drew hxa) hx5))
  all_goals (
    go_wp2
    go_ret2
    exact ⟨rfl, m5⟩)
end

/-- the pages behind a change -/
def newPages (l : List ByteArray) (q : Nat) (r : ByteArray × Int) : List ByteArray := if r.2 = 0 then l.set q r.1 else l
/-- a page is changed by a function -/
theorem change_no (A g size cap : Nat) (l : List ByteArray) (lv : List UInt8) (x : Int) (fv : Value) (w : World) (h : Sp w A g size l lv cap) (hx : ¬ (0 ≤ x ∧ x < l.length)) :
    Calls Try.prog 37 #[.pointer (some ⟨A, 0, none⟩), .int .i64 x, fv] w fun e w' => e = .returned (.int .i64 7) ∧ Ext w w' := by
  have hle := h.le
  have hA := fun W hW => asked_is A lv size (some ⟨g, 0, none⟩) l.length cap x W hW (by omega)
  rw [if_neg hx] at hA
  go_enter Try.func37, Try.ntmps37
  go_wp2_with (go_at_call 42; refine (hA _ h.ar).mono ?_; rintro e w1 ⟨rfl, rfl⟩)
  go_ret
  exact ⟨rfl, Ext.refl w⟩
theorem change_in (A g size cap : Nat) (l : List ByteArray) (lv : List UInt8) (q : Nat) (fid : FuncId) (caps : Array Value) (w : World) (h : Sp w A g size l lv cap) (hq : q < l.length) (r : ByteArray × Int)
    (hf : ∀ args w, (callFunc fid args).run Try.prog w = .ok (.enter fid args) w)
    (hF : Calls Try.prog fid (#[.string (nthB l q)] ++ caps) w fun e w' => e = two2 r ∧ Ext w w') (hv : r.2 = 0 → ValidR r.1 ∧ r.1.size = size) :
    Calls Try.prog 37 #[.pointer (some ⟨A, 0, none⟩), .int .i64 q, .func (.func fid) #[] caps] w fun e w' => e = .returned (.int .i64 r.2) ∧ (∃ lv', Sp w' A g size (newPages l q r) lv' cap) ∧ Chg A g w w' := by
  have hle := h.le
  have hA := fun W hW => asked_is A lv size (some ⟨g, 0, none⟩) l.length cap q W hW (by omega)
  rw [if_pos ⟨by omega, by omega⟩] at hA
  have c1 : (q : Int) < l.length := by omega
  have g1 := h.ar.pagesC
  have g2 := nthCell h q hq
  obtain ⟨p', c⟩ := r
  simp only [two2] at hF hv ⊢
  by_cases hc : c = 0
  · subst hc
    obtain ⟨hv1, hv2⟩ := hv rfl
    have e0 : newPages l q (p', 0) = l.set q p' := if_pos rfl
    rw [e0]
    clear hv e0
    go_enter Try.func37, Try.ntmps37
    go_wp2_with (go_at_call 42; refine (hA _ h.ar).mono ?_; rintro e w1 ⟨rfl, rfl⟩)
    refine hF.mono ?_
    rintro e w2 ⟨rfl, hx2⟩
    have h2 := h.ext hx2
    have g3 := h2.ar.pagesC
    have g4 := nthCell h2 q hq
    have f4 := h2.own.frozenAt q
    have hN := sp_store h2 q hq p' hv1 hv2
    clear g1 g2
    go_wp2_with (go_at_call 25; refine hN.mono ?_; rintro e w3 ⟨rfl, hS, hc⟩)
    go_ret
    exact ⟨rfl, hS, (Chg.of_ext hx2).trans hc⟩
  · have e0 : newPages l q (p', c) = l := if_neg hc
    rw [e0]
    clear e0
    have d4 : (c == 0) = false := by simpa using hc
    have d5 : (c != 0) = true := by simpa using hc
    clear hv
    go_enter Try.func37, Try.ntmps37
    go_wp2_with (go_at_call 42; refine (hA _ h.ar).mono ?_; rintro e w1 ⟨rfl, rfl⟩)
    refine hF.mono ?_
    rintro e w2 ⟨rfl, hx2⟩
    go_wp2
    go_ret
    exact ⟨rfl, ⟨_, h.ext hx2⟩, Chg.of_ext hx2⟩

theorem bytesF_small {p : ByteArray} (hv : ValidR p) : p.size ≤ 140737488355328 := by have := (sizes_of hv).2; omega
/-- the closure of Drop -/
theorem dropF_any (c : Nat) (x line : Int) (p : ByteArray) (w : World) (hc : w.cell? ⟨c, 1, none⟩ = some (.int .i64 line)) (r : ByteArray × Int) (hD : ∀ W, Calls Try.prog 39 #[.string p, .int .i64 line] W fun e w' => e = two2 r ∧ Ext W w') :
    Calls Try.prog 38 #[.string p, .pointer (some ⟨c, 0, none⟩)] w fun e w' => e = two2 r ∧ Ext w w' := by
  obtain ⟨a, b⟩ := r
  simp only [two2] at hD ⊢
  go_enter Try.func38, Try.ntmps38
  go_wp2_with (go_at_call 39; refine (hD _).mono ?_; rintro e w1 ⟨rfl, hx1⟩)
  go_ret2
  exact ⟨rfl, hx1⟩



section
variable (A g size cap : Nat) (l : List ByteArray) (lv : List UInt8) (x line : Int) (s : ByteArray) (w : World) (h : Sp w A g size l lv cap)
include h
theorem sdrop_no (hx : ¬ (0 ≤ x ∧ x < l.length)) :
    Calls Try.prog 29 #[.pointer (some ⟨A, 0, none⟩), .agg #[.int .i64 x, .int .i64 line]] w fun e w' => e = .returned (.int .i64 7) ∧ Ext w w' := by
  have hC := fun fv => change_no A g size cap l lv x fv (w.alloc (.cells #[.int .i64 x, .int .i64 line] 38)) (h.ext ((Ext.refl w).alloc _)) hx
  go_enter Try.func29, Try.ntmps29
  go_wp2_with (go_at_call 37; refine (hC _).mono ?_; rintro e w1 ⟨rfl, hx1⟩)
  go_ret
  exact ⟨rfl, ((Ext.refl w).alloc _).trans hx1⟩
theorem sdrop_in (q : Nat) (hq : q < l.length) (hx : x = q) (r : ByteArray × Int) (hD : ∀ W, Calls Try.prog 39 #[.string (nthB l q), .int .i64 line] W fun e w' => e = two2 r ∧ Ext W w') (hv : r.2 = 0 → ValidR r.1 ∧ r.1.size = size) :
    Calls Try.prog 29 #[.pointer (some ⟨A, 0, none⟩), .agg #[.int .i64 x, .int .i64 line]] w fun e w' => e = .returned (.int .i64 r.2) ∧ (∃ lv', Sp w' A g size (newPages l q r) lv' cap) ∧ Chg A g w w' := by
  subst hx
  have hbx := addr_box (w := w) (.int .i64 (q : Int)) (.int .i64 line) (Ext.refl _)
  have hC := change_in A g size cap l lv q 38 #[.pointer (some ⟨w.heap.size, 0, none⟩)] (w.alloc (.cells #[.int .i64 (q : Int), .int .i64 line] 38)) (h.ext ((Ext.refl w).alloc _)) hq r
    (enters_of Try.func38 (by kernel_rfl) rfl) (dropF_any w.heap.size q line _ _ hbx.2.1 r hD) hv
  clear hbx
  go_enter Try.func29, Try.ntmps29
  go_wp2_with (go_at_call 37; refine hC.mono ?_; rintro e w1 ⟨rfl, hS, hc⟩)
  go_ret
  exact ⟨rfl, hS, (Chg.of_ext ((Ext.refl w).alloc _)).trans hc⟩




end
end
section
open Go.RowKit
set_option linter.unusedVariables false
set_option linter.unusedSimpArgs false
set_option linter.unusedSectionVars false
set_option maxRecDepth 20000

/-- texts as elements -/
abbrev csS (x : ByteArray) : List Value := [.string x]
theorem elemS : ElemG csS 23 9 1 16 where
  ht := Try.underlying23
  info := by
    have h : (Try.prog.info? 9).map (fun i => (i.zero, i.size, i.bytes)) = some (some (.string ⟨#[]⟩), 1, 16) := by kernel_rfl
    cases hq : Try.prog.info? 9 with
    | none => simp [hq] at h
    | some i => simp [hq] at h; exact ⟨i, _, rfl, h.1, h.2.1, h.2.2, rfl⟩
  k0 := by omega
  hk := fun _ => rfl
  one := fun x u hu => by
    simp at hu
    subst hu; rfl
abbrev OwnS (w : World) (base : Nat) (v : Value) (l : List ByteArray) : Prop := OwnG csS 9 1 w base v l
/-- bytes as elements -/
abbrev csB (x : UInt8) : List Value := [.int .u8 x.toNat]
theorem elemB : ElemG csB 60 5 1 1 where
  ht := Try.underlying60
  info := by
    have h : (Try.prog.info? 5).map (fun i => (i.zero, i.size, i.bytes)) = some (some (.int .u8 0), 1, 1) := by kernel_rfl
    cases hq : Try.prog.info? 5 with
    | none => simp [hq] at h
    | some i => simp [hq] at h; exact ⟨i, _, rfl, h.1, h.2.1, h.2.2, rfl⟩
  k0 := by omega
  hk := fun _ => rfl
  one := fun x u hu => by
    simp at hu
    subst hu; rfl
abbrev OwnB (w : World) (base : Nat) (v : Value) (l : List UInt8) : Prop := OwnG csB 5 1 w base v l
theorem flatB (l : List UInt8) : l.flatMap csB = l.map fun b => Value.int .u8 b.toNat := by
  induction l with
  | nil => rfl
  | cons a l ih => rw [List.flatMap_cons, ih, List.map_cons]; rfl
theorem strB (s : ByteArray) : Lib.strCells s = s.data.toList.flatMap csB := by rw [flatB]; rfl
/-- append(b, s...) of a text -/
theorem wpList_app_text {w : World} {base : Nat} {ops : Array Oper} {rest : List Oper} {o : Oper} {a : Act} {Q : Exit → Act → World → Prop} (hgd : o.guard = none) (s x : Operand) (ho : o.op = .call { callee := .builtin .append, args := #[s, x], argTypes := #[60, 9] }) {v : Value} {l : List UInt8} (hs : a.eval s = v) (h : OwnB w base v l)
    {t : ByteArray} (hx : a.eval x = .string t) (hle : l.length + t.size ≤ 140737488355328) (hbase : base ≤ w.heap.size)
    (hn : ∀ v' w', OwnB w' base v' (l ++ t.data.toList) → Below base w w' → wpList Try.prog ops Q rest (a.put o.dst v') w') : wpList Try.prog ops Q (o :: rest) a w := by
  obtain ⟨i, hi, hz, hs1, hb⟩ := u8_info
  obtain ⟨v', w', hr, ho', hg, _⟩ := Lib.run_append_own_string (P := Try.prog) w base 60 9 o.type 5 i Try.underlying60 Try.underlying9 hi hz hs1 hb v l.length _ h t (by unfold maxLen; omega) hle hbase
  refine Lib.wpList_append_run _ hgd s x _ _ ho _ _ hs hx _ _ hr (hn v' w' ?_ (Below.grown (Below.refl _ _) hg hbase (fun g hg => h.base_ g hg)))
  unfold OwnB OwnG
  rw [List.length_append, List.flatMap_append, ← strB]
  simpa using ho'
/-- addresses as elements -/
abbrev csAd (x : Int × Int) : List Value := [.int .i64 x.1, .int .i64 x.2]
theorem elemAd : ElemG csAd 34 38 2 16 where
  ht := Try.underlying34
  info := by
    have h : (Try.prog.info? 38).map (fun i => (i.zero, i.size, i.bytes)) = some (some (.agg #[.int .i64 0, .int .i64 0]), 2, 16) := by kernel_rfl
    cases hq : Try.prog.info? 38 with
    | none => simp [hq] at h
    | some i => simp [hq] at h; exact ⟨i, _, rfl, h.1, h.2.1, h.2.2, rfl⟩
  k0 := by omega
  hk := fun _ => rfl
  one := fun x u hu => by
    simp at hu
    rcases hu with rfl | rfl <;> rfl
abbrev OwnAd (w : World) (base : Nat) (v : Value) (l : List (Int × Int)) : Prop := OwnG csAd 38 2 w base v l
end
section
open Go.RowKit
set_option linter.unusedVariables false
set_option linter.unusedSimpArgs false
set_option linter.unusedSectionVars false
set_option maxRecDepth 20000

def textSize : Value → Nat
  | .string s => s.size
  | _ => 0
theorem key_is (k : Int) (w : World) : Calls Try.prog 11 #[.int .i64 k] w fun e w' => e = .returned (.bool (decide (1 ≤ k ∧ k ≤ 1000000))) ∧ w = w' := by
  by_cases h1 : 1 ≤ k
  · by_cases h2 : k ≤ 1000000
    · rw [decide_eq_true ⟨h1, h2⟩]
      go_enter Try.func11, Try.ntmps11
      go_wp2
      go_ret
      exact ⟨rfl, rfl⟩
    · rw [decide_eq_false (fun h => h2 h.2)]
      go_enter Try.func11, Try.ntmps11
      go_wp2
      go_ret
      exact ⟨rfl, rfl⟩
  · rw [decide_eq_false (fun h => h1 h.1)]
    go_enter Try.func11, Try.ntmps11
    go_wp2
    go_ret
    exact ⟨rfl, rfl⟩
theorem rkey_is (k : Int) (w : World) : Calls Try.prog 14 #[.int .i64 k] w fun e w' => e = .returned (.bool (decide (1 ≤ k ∧ k ≤ 1000000))) ∧ w = w' := by
  by_cases h1 : 1 ≤ k
  · by_cases h2 : k ≤ 1000000
    · rw [decide_eq_true ⟨h1, h2⟩]
      go_enter Try.func14, Try.ntmps14
      go_wp2
      go_ret
      exact ⟨rfl, rfl⟩
    · rw [decide_eq_false (fun h => h2 h.2)]
      go_enter Try.func14, Try.ntmps14
      go_wp2
      go_ret
      exact ⟨rfl, rfl⟩
  · rw [decide_eq_false (fun h => h1 h.1)]
    go_enter Try.func14, Try.ntmps14
    go_wp2
    go_ret
    exact ⟨rfl, rfl⟩
/-- the loop's state: parts so far, and the data left -/
def PartR (w : World) (m : Nat) (s : ByteArray) (d o : Value) (wr : World) : Prop :=
  ∃ (x : ByteArray) (f : Nat) (l : List ByteArray), d = .string x ∧ x.size ≤ f ∧ OwnS wr w.heap.size o l ∧ l ++ partsN m f x = partsL m s ∧ Ext w wr ∧ l.length + x.size ≤ s.size
set_option maxHeartbeats 1000000 in
theorem parts_any (m : Nat) (s : ByteArray) (w : World) (hm : 1 ≤ m) (hm2 : m ≤ 1000) (hs : s.size ≤ 4000) :
    Calls Try.prog 12 #[.int .i64 m, .string s] w fun e w' => (∃ v, e = .returned v ∧ OwnS w' w.heap.size v (partsL m s)) ∧ Ext w w' := by
  go_enter Try.func12, Try.ntmps12
  go_wp2
  go_loopw [1, 5] (fun d o wr => PartR w m s d o wr) (fun d o _ => textSize d)
  case atStart => exact ⟨s, s.size, [], rfl, Nat.le_refl _, OwnG.nil _ _ _ _ _, rfl, Ext.refl w, by simp⟩
  case round =>
    obtain ⟨x, f, l, rfl, hf, hown, hl, hx, hle⟩ := hrel
    have HO := Lib.hid hown
    have HLL := Lib.hid hle
    have hxl : x.size ≤ 4000 := by omega
    by_cases hlt : m < x.size
    · obtain ⟨f, rfl⟩ : ∃ g, f = g + 1 := ⟨f - 1, by omega⟩
      rw [partsN_big hlt] at hl
      have HL := Lib.hid hl
      have HF := Lib.hid hf
      have HX := Lib.hid hlt
      have c1 : (m : Int) < x.size := by omega
      have c2 : (m : Int) ≤ x.size := by omega
      have z1 : (x.extract 0 m).size = m := by simp only [ByteArray.size_extract]; omega
      have z2 : (x.extract m x.size).size = x.size - m := by simp only [ByteArray.size_extract]; omega
      have HZ := Lib.hid z2
      clear hown hl hf hle hlt
      go_wp2_with (first
        | (at_builtin; refine wpList_app_G _ elemS rfl _ _ rfl (base := w.heap.size) rfl (HO.out.ext ((Ext.refl _).alloc _)) (m := [x.extract 0 m]) rfl (SlG.one elemS.hk _ ?d1 ?d2) ?d3 ?d4 ?d5 ?d6 ?_))
      case d1 => rfl
      all_goals first
        | rfl
        | (intro e; cases e; done)
        | (have := HLL.out; have := hx.size; simp; omega; done)
        | (have := HLL.out; have := hx.size; simp only [List.length_singleton]; omega; done)
        | skip
      intro v' w6 hown' hbl
      have hx6 : Ext w w6 := below_ext (hx.alloc _) hbl (Nat.le_refl _)
      go_wp2
      go_roundw
      case rel => exact ⟨_, f, _, rfl, by have := HF.out; have := HZ.out; have := HX.out; omega, hown', by rw [List.append_assoc]; exact HL.out, hx6, by have := HLL.out; have := HZ.out; have := HX.out; simp; omega⟩
      case measure => have := HZ.out; have := HX.out; simp [textSize]; omega
    · rw [partsN_small hlt] at hl
      have HL := Lib.hid hl
      have c1 : ¬ (m : Int) < x.size := by omega
      clear hown hl hle
      go_wp2_with (first
        | (at_builtin; refine wpList_app_G _ elemS rfl _ _ rfl (base := w.heap.size) rfl (HO.out.ext ((Ext.refl _).alloc _)) (m := [x]) rfl (SlG.one elemS.hk _ ?e1 ?e2) ?e3 ?e4 ?e5 ?e6 ?_))
      case e1 => rfl
      all_goals first
        | rfl
        | (intro e; cases e; done)
        | (have := HLL.out; have := hx.size; simp; omega; done)
        | (have := HLL.out; have := hx.size; simp only [List.length_singleton]; omega; done)
        | skip
      intro v' w6 hown' hbl
      go_wp2
      go_ret
      exact ⟨⟨_, rfl, by rw [← HL.out]; exact hown'⟩, below_ext (hx.alloc _) hbl (Nat.le_refl _)⟩
set_option maxHeartbeats 1000000 in
theorem rparts_any (m : Nat) (s : ByteArray) (w : World) (hm : 1 ≤ m) (hm2 : m ≤ 1000) (hs : s.size ≤ 4000) :
    Calls Try.prog 15 #[.string s, .int .i64 m] w fun e w' => (∃ v, e = .returned v ∧ OwnS w' w.heap.size v (partsL m s)) ∧ Ext w w' := by
  go_enter Try.func15, Try.ntmps15
  go_wp2
  go_loopw [0, 5] (fun d o wr => PartR w m s d o wr) (fun d o _ => textSize d)
  case atStart => exact ⟨s, s.size, [], rfl, Nat.le_refl _, OwnG.nil _ _ _ _ _, rfl, Ext.refl w, by simp⟩
  case round =>
    obtain ⟨x, f, l, rfl, hf, hown, hl, hx, hle⟩ := hrel
    have HO := Lib.hid hown
    have HLL := Lib.hid hle
    have hxl : x.size ≤ 4000 := by omega
    by_cases hlt : m < x.size
    · obtain ⟨f, rfl⟩ : ∃ g, f = g + 1 := ⟨f - 1, by omega⟩
      rw [partsN_big hlt] at hl
      have HL := Lib.hid hl
      have HF := Lib.hid hf
      have HX := Lib.hid hlt
      have c1 : (m : Int) < x.size := by omega
      have c2 : (m : Int) ≤ x.size := by omega
      have z1 : (x.extract 0 m).size = m := by simp only [ByteArray.size_extract]; omega
      have z2 : (x.extract m x.size).size = x.size - m := by simp only [ByteArray.size_extract]; omega
      have HZ := Lib.hid z2
      clear hown hl hf hle hlt
      go_wp2_with (first
        | (at_builtin; refine wpList_app_G _ elemS rfl _ _ rfl (base := w.heap.size) rfl (HO.out.ext ((Ext.refl _).alloc _)) (m := [x.extract 0 m]) rfl (SlG.one elemS.hk _ ?d1 ?d2) ?d3 ?d4 ?d5 ?d6 ?_))
      case d1 => rfl
      all_goals first
        | rfl
        | (intro e; cases e; done)
        | (have := HLL.out; have := hx.size; simp; omega; done)
        | (have := HLL.out; have := hx.size; simp only [List.length_singleton]; omega; done)
        | skip
      intro v' w6 hown' hbl
      have hx6 : Ext w w6 := below_ext (hx.alloc _) hbl (Nat.le_refl _)
      go_wp2
      go_roundw
      case rel => exact ⟨_, f, _, rfl, by have := HF.out; have := HZ.out; have := HX.out; omega, hown', by rw [List.append_assoc]; exact HL.out, hx6, by have := HLL.out; have := HZ.out; have := HX.out; simp; omega⟩
      case measure => have := HZ.out; have := HX.out; simp [textSize]; omega
    · rw [partsN_small hlt] at hl
      have HL := Lib.hid hl
      have c1 : ¬ (m : Int) < x.size := by omega
      clear hown hl hle
      go_wp2_with (first
        | (at_builtin; refine wpList_app_G _ elemS rfl _ _ rfl (base := w.heap.size) rfl (HO.out.ext ((Ext.refl _).alloc _)) (m := [x]) rfl (SlG.one elemS.hk _ ?e1 ?e2) ?e3 ?e4 ?e5 ?e6 ?_))
      case e1 => rfl
      all_goals first
        | rfl
        | (intro e; cases e; done)
        | (have := HLL.out; have := hx.size; simp; omega; done)
        | (have := HLL.out; have := hx.size; simp only [List.length_singleton]; omega; done)
        | skip
      intro v' w6 hown' hbl
      go_wp2
      go_ret
      exact ⟨⟨_, rfl, by rw [← HL.out]; exact hown'⟩, below_ext (hx.alloc _) hbl (Nat.le_refl _)⟩
end
end Go.Proofs.Ytcbainmpikcfjaa
