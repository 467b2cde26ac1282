/- Areas: a page is stored; Put, Get. -/
import Derived.Test.YtnileonlabpbpaaSpD
namespace Go.Proofs.Ytnileonlabpbpaa
open Go.RowKit
set_option linter.unusedVariables false
set_option maxRecDepth 20000
set_option maxRecDepth 20000

/-- Only the blocks A and g have changed (and new blocks may be there). -/
structure Chg (A g : Nat) (w w' : World) : Prop where
  os : w'.os = w.os
  tape : w'.tape = w.tape
  output : w'.output = w.output
  size : w.heap.size ≤ w'.heap.size
  block : ∀ k, k < w.heap.size → k ≠ A → k ≠ g → w'.heap[k]? = w.heap[k]?
theorem Chg.of_ext {A g : Nat} {w w' : World} (h : Ext w w') : Chg A g w w' := ⟨h.os, h.tape, h.output, h.size, fun k hk _ _ => h.block hk⟩
theorem Chg.of_a {A g : Nat} {w w' : World} (h : Upd w A w') : Chg A g w w' := ⟨h.os, h.tape, h.output, h.size, fun k hk hA _ => h.block k hk (fun e => hA (by injection e))⟩
theorem Chg.of_g {A g : Nat} {w w' : World} (h : Upd w g w') : Chg A g w w' := ⟨h.os, h.tape, h.output, h.size, fun k hk _ hg => h.block k hk (fun e => hg (by injection e))⟩
theorem Chg.trans {A g : Nat} {a b c : World} (h : Chg A g a b) (k : Chg A g b c) : Chg A g a c :=
  ⟨k.os.trans h.os, k.tape.trans h.tape, k.output.trans h.output, Nat.le_trans h.size k.size, fun i hi hA hg => (k.block i (Nat.lt_of_lt_of_le hi h.size) hA hg).trans (h.block i hi hA hg)⟩
theorem Chg.ext {A g : Nat} {a b c : World} (h : Ext a b) (k : Chg A g b c) (hA : a.heap.size ≤ A) (hg : a.heap.size ≤ g) : Ext a c :=
  Ext.trans (Ext.refl a) ⟨k.os.trans h.os, k.tape.trans h.tape, k.output.trans h.output, Nat.le_trans h.size k.size, fun i hi => (k.block i (Nat.lt_of_lt_of_le hi h.size) (by omega) (by omega)).trans (h.block hi)⟩

theorem nthB_set (l : List ByteArray) (n i : Nat) (p : ByteArray) (hn : n < l.length) : nthB (l.set n p) i = if i = n then p else nthB l i := by
  unfold nthB
  simp only [List.getD_eq_getElem?_getD, List.getElem?_set]
  by_cases h : n = i
  · subst h; simp [hn]
  · rw [if_neg h, if_neg (fun e => h e.symm)]

theorem sp_store {w : World} {A g size cap : Nat} {l : List ByteArray} {lv : List UInt8} (h : Sp w A g size l lv cap) (n : Nat) (hn : n < l.length) (p : ByteArray) (hv : ValidR p) (hz : p.size = size) :
    Calls Try.prog 17 #[.pointer (some ⟨A, 0, none⟩), .int .i64 n] (w.setCell ⟨g, n, none⟩ (.string p)) fun e w' =>
      e = .returned (.tuple #[]) ∧ (∃ lv', Sp w' A g size (l.set n p) lv' cap) ∧ Chg A g w w' := by
  have hle := h.le
  have hA := h.ar.same (Below.heap_setCell w ⟨g, n, none⟩ (.string p) A h.ne)
  have ho := (h.own.stored n (.string p)).1
  rw [← List.map_set] at ho
  have hll := h.ar.len
  have hlen : (l.set n p).length = l.length := by simp
  have hs := slS_of_row' hlen ho
  have hnth : nthB (l.set n p) n = p := by rw [nthB_set _ _ _ _ hn, if_pos rfl]
  refine (noted_any A lv size _ l.length cap (l.set n p) n _ hA hs hlen hn (by omega) (by rw [hnth]; exact hv) (by rw [hnth]; exact hz)).mono ?_
  rintro e w' ⟨he, h1, h2⟩
  refine ⟨he, ⟨_, by rw [hlen]; exact h1, ?_, h.ne, fun i hi => ?_, fun i hi => ?_, by rw [hlen]; exact h.pos, by rw [hlen]; exact h.le, h.sz⟩, (Chg.of_g (Upd.setCell _ _ _ _)).trans (Chg.of_a h2)⟩
  · rw [hlen]
    refine ⟨ho.1, ?_⟩
    rcases ho.2 with h0 | ⟨g', cap', cur, hv', hb, hg, rest⟩
    · exact .inl h0
    · refine .inr ⟨g', cap', cur, hv', hb, h2.heap hg ?_, rest⟩
      simp only [Value.slice.injEq, Option.some.injEq, Addr.mk.injEq, and_true, true_and] at hv'
      rw [← hv'.1]
      exact fun e => h.ne e.symm
  · rw [hlen] at hi
    rw [nthL_set _ _ _ _ (by omega), hnth]
    by_cases hin : i = n
    · rw [if_pos hin, hin, hnth]
    · rw [if_neg hin, nthB_set _ _ _ _ hn, if_neg hin, h.lev i hi]
  · rw [hlen] at hi
    rw [nthB_set _ _ _ _ hn]
    by_cases hin : i = n
    · rw [if_pos hin]; exact ⟨hv, hz⟩
    · rw [if_neg hin]; exact h.good i hi

/-- a page that holds the bytes takes them -/
theorem put_holds (p s : ByteArray) (hv : ValidR p) (hs : s.toList ≠ []) (hs2 : s.size ≤ 140737488355328) (hh : holdsB p s.size = true) :
    ∃ q : ByteArray, ∃ line : Int, ValidR q ∧ q.size = p.size ∧ (∀ w, Calls Try.prog 29 #[.string p, .string s] w fun e w' => e = put3 (q, line, 0) ∧ Ext w w') ∧
      putRes p.size (cnt p) (cel p) (Classical.choose (pos_of (cel_good hv) (nextF (cel p) (cnt p)))) s = (q, line, 0) := by
  have hG := cel_good hv
  have hp := Classical.choose_spec (pos_of hG (nextF (cel p) (cnt p)))
  generalize Classical.choose (pos_of (cel_good hv) (nextF (cel p) (cnt p))) = pos at *
  have hs0 : 0 < s.size := by have h := hs; rw [ne_eq, toList_nil] at h; omega
  have hge := (nextI hG _ (Nat.le_refl _)).ge
  unfold holdsB topLine at hh
  simp only [Bool.and_eq_true, decide_eq_true_eq] at hh
  have hroom := roomF_ins hp (by omega) s p.size
  have hr : ¬ roomF p.size (insF (cel p) pos (nextF (cel p) (cnt p), s)) (cnt p + 1) < 0 := by
    rw [hroom]
    omega
  have e : putRes p.size (cnt p) (cel p) pos s = ((filledRes p.size (cnt p + 1) (insF (cel p) pos (nextF (cel p) (cnt p), s))).1, ((nextF (cel p) (cnt p) : Nat) : Int), 0) := by
    unfold putRes filledRes
    rw [if_pos hh.1, if_neg hr]
    simp only [hr, if_false]
  obtain ⟨e1, e2, _, _⟩ := filled_valid p.size (cnt p + 1) _ (ins_good hG hp ⟨by omega, by omega⟩ (next_miss hG) s hs0) hv.1.1 (by unfold filledRes; rw [if_neg hr])
  refine ⟨_, _, e2, e1, fun w => ?_, e⟩
  rw [← e]
  exact put_ok p s w hv hs hs2 pos hp

theorem Chg.setNew {A g : Nat} {w w' : World} (h : Chg A g w w') {p : Addr} (hp : w.heap.size ≤ p.block) (v : Value) : Chg A g w (w'.setCell p v) :=
  ⟨h.os, h.tape, h.output, by simpa [World.setCell] using h.size, fun k hk hA hg => (Below.heap_setCell _ _ _ k (by omega)).trans (h.block k hk hA hg)⟩
theorem Sp.same {w w' : World} {A g size cap : Nat} {l : List ByteArray} {lv : List UInt8} (h : Sp w A g size l lv cap) (hA : w'.heap[A]? = w.heap[A]?) (hg : w'.heap[g]? = w.heap[g]?) : Sp w' A g size l lv cap := by
  refine ⟨h.ar.same hA, ⟨h.own.1, ?_⟩, h.ne, h.lev, h.good, h.pos, h.le, h.sz⟩
  rcases h.own.2 with h0 | ⟨g', cap', cur, hv', hb, hgh, rest⟩
  · exact .inl h0
  · refine .inr ⟨g', cap', cur, hv', hb, ?_, rest⟩
    simp only [Value.slice.injEq, Option.some.injEq, Addr.mk.injEq, and_true, true_and] at hv'
    rw [← hv'.1, hg, hv'.1]
    exact hgh
theorem Sp.gl {w : World} {A g size cap : Nat} {l : List ByteArray} {lv : List UInt8} (h : Sp w A g size l lv cap) : g < w.heap.size := (h.own.lt g rfl).2
theorem Sp.setFar {w : World} {A g size cap : Nat} {l : List ByteArray} {lv : List UInt8} (h : Sp w A g size l lv cap) {p : Addr} (hA : A ≠ p.block) (hg : g ≠ p.block) (v : Value) : Sp (w.setCell p v) A g size l lv cap :=
  h.same (Below.heap_setCell _ _ _ A hA) (Below.heap_setCell _ _ _ g hg)
theorem nthCell {w : World} {A g size cap : Nat} {l : List ByteArray} {lv : List UInt8} (h : Sp w A g size l lv cap) (q : Nat) (hq : q < l.length) : w.cell? ⟨g, q, none⟩ = some (.string (nthB l q)) := by
  obtain ⟨b', off, e, hc⟩ := h.sls.at_ q hq
  simp only [Option.some.injEq, Addr.mk.injEq, and_true] at e
  obtain ⟨rfl, rfl⟩ := e
  simpa using hc
theorem addr_cells {w : World} {k : Nat} {x y : Value} {t : TypeId} (hb : w.heap[k]? = some (.cells #[x, y] t (0, 0))) :
    w.cell? ⟨k, 0, none⟩ = some x ∧ w.cell? ⟨k, 1, none⟩ = some y ∧ w.frozen? ⟨k, 0, none⟩ = false ∧ w.frozen? ⟨k, 1, none⟩ = false :=
  ⟨by simp [World.cell?, hb], by simp [World.cell?, hb], by simp [World.frozen?, hb], by simp [World.frozen?, hb]⟩
theorem addr_box {w w1 : World} (x y : Value) (hx : Ext (w.alloc (.cells #[x, y] 37)) w1) :
    w1.cell? ⟨w.heap.size, 0, none⟩ = some x ∧ w1.cell? ⟨w.heap.size, 1, none⟩ = some y ∧ w1.frozen? ⟨w.heap.size, 0, none⟩ = false ∧ w1.frozen? ⟨w.heap.size, 1, none⟩ = false := by
  have hb := hx.heap (World.alloc_heap_new w (.cells #[x, y] 37))
  refine ⟨by simp [World.cell?, hb], by simp [World.cell?, hb], by simp [World.frozen?, hb], by simp [World.frozen?, hb]⟩
theorem sput_empty (A : Nat) (near : Int) (s : ByteArray) (w : World) (hs : s.toList = []) :
    Calls Try.prog 9 #[.pointer (some ⟨A, 0, none⟩), .int .i64 near, .string s] w fun e w' => e = .returned (.tuple #[.agg #[.int .i64 0, .int .i64 0], .int .i64 1]) ∧ Ext w w' := by
  go_enter Try.func9, Try.ntmps9
  go_wp2
  exact bodyPost_ret (v := .tuple #[.agg #[.int .i64 0, .int .i64 0], .int .i64 1]) (by simp [results, Try.results9, go_sem]) rfl ⟨rfl, ((Ext.refl w).alloc _)⟩
section
variable (A g size cap : Nat) (l : List ByteArray) (lv : List UInt8) (near : Int) (s : ByteArray) (w : World) (h : Sp w A g size l lv cap)
include h
theorem sput_no (hs : s.toList ≠ []) (c : Int) (hc : c ≠ 0) (hF : ∀ W, Sp W A g size l lv cap → Calls Try.prog 28 #[.pointer (some ⟨A, 0, none⟩), .int .i64 near, .int .i64 s.size] W fun e w' => e = .returned (.tuple #[.int .i64 0, .int .i64 c]) ∧ Ext W w') :
    Calls Try.prog 9 #[.pointer (some ⟨A, 0, none⟩), .int .i64 near, .string s] w fun e w' => e = .returned (.tuple #[.agg #[.int .i64 0, .int .i64 0], .int .i64 c]) ∧ Ext w w' := by
  have d3 : s.toList.isEmpty = false := by simpa using hs
  have d4 : (c == 0) = false := by simpa using hc
  have d5 : (c != 0) = true := by simpa using hc
  clear hs
  go_enter Try.func9, Try.ntmps9
  go_wp2_with (go_at_call 28; refine (hF _ (h.ext ((Ext.refl w).alloc _))).mono ?_; rintro e w1 ⟨rfl, hx1⟩; obtain ⟨r0, r1, f0, f1⟩ := addr_box _ _ hx1)
  exact bodyPost_ret (v := .tuple #[.agg #[.int .i64 0, .int .i64 0], .int .i64 c]) (by simp [results, Try.results9, go_sem, r0, r1]) rfl ⟨rfl, ((((Ext.refl w).alloc _).trans hx1).setCell (Nat.le_refl _) _).setCell (Nat.le_refl _) _⟩
theorem sput_yes (hs : s.toList ≠ []) (q : Nat) (hq : q < l.length) (hF : ∀ W, Sp W A g size l lv cap → Calls Try.prog 28 #[.pointer (some ⟨A, 0, none⟩), .int .i64 near, .int .i64 s.size] W fun e w' => e = .returned (.tuple #[.int .i64 q, .int .i64 0]) ∧ Ext W w')
    (p' : ByteArray) (line : Int) (hv' : ValidR p') (hz' : p'.size = size) (hP : ∀ W, Calls Try.prog 29 #[.string (nthB l q), .string s] W fun e w' => e = put3 (p', line, 0) ∧ Ext W w') :
    Calls Try.prog 9 #[.pointer (some ⟨A, 0, none⟩), .int .i64 near, .string s] w fun e w' => e = .returned (.tuple #[.agg #[.int .i64 q, .int .i64 line], .int .i64 0]) ∧ (∃ lv', Sp w' A g size (l.set q p') lv' cap) ∧ Chg A g w w' := by
  have d3 : s.toList.isEmpty = false := by simpa using hs
  simp only [put3] at hP
  clear hs
  have c1 : (q : Int) < l.length := by omega
  go_enter Try.func9, Try.ntmps9
  go_wp2_with (go_at_call 28; refine (hF _ (h.ext ((Ext.refl w).alloc _))).mono ?_; rintro e w1 ⟨rfl, hx1⟩; have hx1' := ((Ext.refl w).alloc _).trans hx1; have h1 := h.ext hx1'; have g1 := h1.ar.pagesC; have g2 := nthCell h1 q hq)
  refine (hP _).mono ?_
  rintro e w2 ⟨rfl, hx2⟩
  have hx2' := hx1'.trans hx2
  have h2 := h.ext hx2'
  have g3 := h2.ar.pagesC
  have g4 := nthCell h2 q hq
  have f4 := h2.own.frozenAt q
  have hAl := h.ar.lt
  have hgl := h.gl
  have hbx := hx2.heap (hx1.heap (World.alloc_heap_new w (.cells #[.int .i64 0, .int .i64 0] 37)))
  have hN := sp_store h2 q hq p' hv' hz'
  clear g1 g2 hx1' h1
  go_wp2_with (go_at_call 17; refine hN.mono ?_; rintro e w3 ⟨rfl, ⟨lv', hS⟩, hc⟩; have hb3 := (hc.block w.heap.size (Nat.lt_of_lt_of_le (by simp) (Nat.le_trans hx1.size hx2.size)) (by omega) (by omega)).trans hbx; obtain ⟨r0, r1, f0, f1⟩ := addr_cells hb3)
  exact bodyPost_ret (v := .tuple #[.agg #[.int .i64 q, .int .i64 line], .int .i64 0]) (by simp [results, Try.results9, go_sem, r0, r1]) rfl
    ⟨rfl, ⟨lv', (hS.setFar (by simp; omega) (by simp; omega) _).setFar (by simp; omega) (by simp; omega) _⟩, ((((Chg.of_ext hx2').trans hc).setNew (Nat.le_refl _) _).setNew (Nat.le_refl _) _)⟩
end
end Go.Proofs.Ytnileonlabpbpaa
