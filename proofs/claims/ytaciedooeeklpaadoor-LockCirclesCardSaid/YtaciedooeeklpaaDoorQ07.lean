/- LkN; LkO (merged by group.py) -/
import Derived.Test.YtaciedooeeklpaaDoorQ06
import Derived.Shelf.Abstract
import Derived.Test.YtaciedooeeklpaaDoorShelf
namespace Go.Proofs.YtaciedooeeklpaaDoor
section
open Go.RowKit
set_option linter.unusedVariables false
set_option linter.unusedSimpArgs false
set_option linter.unusedSectionVars false
set_option maxRecDepth 100000
attribute [local go_sem] Oper.semAt_some

/-- the three boxes of touch -/
structure TchS (w : World) (a b : ByteArray) (W : World) : Prop where
  ba : Boxed W w.heap.size 9 (.string a)
  bb : Boxed W (w.heap.size + 1) 9 (.string b)
  br : Boxed W (w.heap.size + 2) 4 (.bool false)
  x : Ext w W
theorem TchS.ext {w : World} {a b : ByteArray} {W W' : World} (h : TchS w a b W) (hx : Ext W W') : TchS w a b W' := ⟨hx.heap h.ba, hx.heap h.bb, hx.heap h.br, h.x.trans hx⟩
theorem TchS.put {w : World} {a b : ByteArray} {W : World} (h : TchS w a b W) {k : Nat} (hk : w.heap.size + 3 ≤ k) (o : Obj) : TchS w a b (W.putObj k o) :=
  ⟨(World.putObj_heap_other (by omega)).trans h.ba, (World.putObj_heap_other (by omega)).trans h.bb, (World.putObj_heap_other (by omega)).trans h.br, Upd.ext h.x (grownBy_putObj' _ _ _) (by omega)⟩
theorem TchS.set {w : World} {a b : ByteArray} {W : World} (h : TchS w a b W) {k : Nat} (hk : w.heap.size + 3 ≤ k) (v : Value) : TchS w a b (W.setCell ⟨k, 0, none⟩ v) :=
  ⟨(Below.heap_setCell _ _ _ _ (by show _ ≠ k; omega)).trans h.ba, (Below.heap_setCell _ _ _ _ (by show _ ≠ k; omega)).trans h.bb, (Below.heap_setCell _ _ _ _ (by show _ ≠ k; omega)).trans h.br, h.x.setCell (by show w.heap.size ≤ k; omega) _⟩
theorem TchS.yes {w : World} {a b : ByteArray} {W : World} (h : TchS w a b W) (v : Value) : Boxed (W.setCell ⟨w.heap.size + 2, 0, none⟩ v) (w.heap.size + 2) 4 v ∧ Ext w (W.setCell ⟨w.heap.size + 2, 0, none⟩ v) :=
  ⟨h.br.set v, h.x.setCell (by simp) _⟩
theorem touch_iff (a b : ByteArray) : touchN a b = true ↔ (∃ i, i < (upsB a).length ∧ mkB (upB a i) = b) ∨ ∃ i, i < (upsB b).length ∧ mkB (upB b i) = a := by
  have key : ∀ x y : ByteArray, (∃ i, i < (upsB x).length ∧ mkB (upB x i) = y) ↔ (y = x ∨ aboveB y.data.toList x.data.toList = true) := fun x y => by
    have h := ups_mem x.data.toList.length x.data.toList y.data.toList (Nat.le_refl _)
    have e : y.data.toList = x.data.toList ↔ y = x := ⟨fun e => ByteArray.ext (Array.ext' e), fun e => by rw [e]⟩
    rw [e] at h
    rw [← h]
    constructor
    · rintro ⟨i, hi, rfl⟩
      rw [mkB_toList]
      unfold upB upsB at *
      rw [List.getD_eq_getElem?_getD, List.getElem?_eq_getElem hi]
      exact List.getElem_mem hi
    · intro hm
      obtain ⟨i, hi, hg⟩ := List.mem_iff_getElem.1 hm
      refine ⟨i, hi, ?_⟩
      unfold upB upsB
      rw [List.getD_eq_getElem?_getD, List.getElem?_eq_getElem hi]
      show mkB ((upsL _ _)[i]) = y
      rw [hg]
      rfl
  rw [key, key]
  unfold touchN
  rw [Bool.or_eq_true, Bool.or_eq_true, decide_eq_true_eq]
  constructor
  · rintro ((h | h) | h)
    · exact .inl (.inl h.symm)
    · exact .inr (.inr h)
    · exact .inl (.inr h)
  · rintro ((h | h) | (h | h))
    · exact .inl (.inl h.symm)
    · exact .inr h
    · exact .inl (.inl h)
    · exact .inl (.inr h)
theorem tch_end (n : Nat) (W' : World) (tmps : Array Value) (v : Bool) (h4 : tmps.getD 4 undef = .pointer (some ⟨n, 0, none⟩)) (q : W'.cell? ⟨n, 0, none⟩ = some (.bool v)) :
    (results Tryd.f18 tmps).run Tryd.prog W' = .ok (.bool v) W' := by
  have h4' : tmps[4]?.getD undef = .pointer (some ⟨n, 0, none⟩) := by simpa using h4
  simp only [results, Tryd.results18]
  simp [Sem.run_bind, Result.andThen, h4', go_sem, q]
set_option maxHeartbeats 8000000 in
theorem ltouch_any (a b : ByteArray) (w : World) (ha : a.size ≤ 1000000) (hb : b.size ≤ 1000000) : Calls Tryd.prog 18 #[.string a, .string b] w fun e w' => e = .returned (.bool (touchN a b)) ∧ Ext w w' := by
  have HT := Lib.hid (touch_iff a b)
  refine calls_of_wpAt Tryd.func18 rfl ?_
  simp only [Tryd.ntmps18, List.size_toArray, List.length_cons, List.length_nil, Nat.reduceAdd, Nat.reduceSub, Array.replicate_succ, Array.replicate_zero, List.push_toArray, List.append_toArray, List.nil_append, List.cons_append]
  refine wpAt_seq_k (fun K hK => ?_)
  go_wp2
  obtain ⟨W3, hW3⟩ : ∃ W3, ((w.alloc (.cells #[.string a] 9)).alloc (.cells #[.string b] 9)).alloc (.cells #[.bool false] 4) = W3 := ⟨_, rfl⟩
  have hS3 : TchS w a b W3 := by
    rw [← hW3]
    refine ⟨((Boxed.new _ _ _).alloc _).alloc _, ?_, ?_, (((Ext.refl _).alloc _).alloc _).alloc _⟩
    · have := Boxed.new (w.alloc (.cells #[.string a] 9)) 9 (.string b)
      rw [World.size_alloc] at this
      exact this.alloc _
    · have := Boxed.new ((w.alloc (.cells #[.string a] 9)).alloc (.cells #[.string b] 9)) 4 (.bool false)
      rw [World.size_alloc, World.size_alloc] at this
      exact this
  have hz3 : W3.heap.size = w.heap.size + 3 := by rw [← hW3]; simp only [World.size_alloc]
  try rw [hW3]
  clear hW3
  refine wpAt_seq ?_
  refine wpAt_seq_k (fun K hK => ?_)
  have k1 := hS3.ba.cell
  go_wp2_with (go_at_call 43; refine (above1_any a _).mono ?_; rintro e w4 ⟨rfl, rfl⟩)
  obtain ⟨W4, hW4⟩ : ∃ W4, W3.alloc (.cells #[.string a] 9) = W4 := ⟨_, rfl⟩
  have b4 : Boxed W4 (w.heap.size + 3) 9 (.string a) := by
    rw [← hW4, ← hz3]
    exact Boxed.new W3 9 (.string a)
  have hS4 : TchS w a b W4 := by rw [← hW4]; exact hS3.ext ((Ext.refl _).alloc _)
  have hz4 : W4.heap.size = w.heap.size + 4 := by rw [← hW4, World.size_alloc, hz3]
  try rw [hz3]
  try rw [hW4]
  clear hW4 hS3 k1
  refine wpAt_block ?_
  have HZ := Lib.hid hz4
  refine wpAt_rangeFuncK (hf := Tryd.func18) (gf := 61) (lb := #[.pointer (some ⟨w.heap.size + 3, 0, none⟩)]) rfl (enters_of Tryd.func61 (by kernel_rfl) rfl)
    (above_seq a (w.heap.size + 3) ha) (by omega) (fun _ => rfl)
    (fun i W => (TchS w a b W ∧ Hid (∀ y, y < i → mkB (upB a y) ≠ b)) ∧ Boxed W (w.heap.size + 3) 9 (upLeft a i))
    (fun i W => (TchS w a b W ∧ Hid (∀ y, y < i → mkB (upB a y) ≠ b)) ∧ Boxed W (w.heap.size + 3) 9 (upLeft a (i + 1)))
    (fun _ c W => c = .ret ∧ touchN a b = true ∧ Boxed W (w.heap.size + 2) 4 (.bool true) ∧ Ext w W)
    (fun _ _ _ => False)
    (fun i A B ⟨⟨h0, h1⟩, h2⟩ hx => ⟨⟨h0.ext hx, h1⟩, hx.heap h2⟩)
    (fun i A B ⟨⟨h0, h1⟩, h2⟩ hx => ⟨⟨h0.ext hx, h1⟩, hx.heap h2⟩)
    (fun _ _ A B ⟨h0, h1, h2, h3⟩ hx => ⟨h0, h1, hx.heap h2, h3.trans hx⟩)
    (fun i A r r' ⟨⟨h0, h1⟩, h2⟩ hl => ⟨⟨h0.put (by omega) _, h1⟩, (World.putObj_heap_other (by omega)).trans h2⟩)
    (fun _ _ A r r' ⟨h0, h1, h2, h3⟩ _ => ⟨h0, h1, (World.putObj_heap_other (by omega)).trans h2, Upd.ext h3 (grownBy_putObj' _ _ _) (by omega)⟩)
    (fun i A h => h.2)
    (fun i A hi ⟨⟨h0, h1⟩, h2⟩ => ⟨⟨h0.set (by omega) _, h1⟩, h2.set _⟩)
    (fun i A _ => trivial)
    (fun i A ⟨⟨h0, h1⟩, h2⟩ => ⟨trivial, h2⟩)
    ⟨⟨hS4, Lib.hid (fun y hy => by omega)⟩, b4⟩ ?round ?done ?stop (fun _ _ _ _ h _ => h.elim)
  case stop =>
    rintro i c W hi ⟨rfl, h1, h2, h3⟩ hD
    have hWz := h3.size
    rw [HZ.out] at hD
    go_wp2
    refine ⟨by simp, .inl ⟨_, _, rfl, run_takeDeferred (by rw [HZ.out]; exact hD), ?_⟩⟩
    exact ⟨_, tch_end (w.heap.size + 2) _ _ true rfl (Boxed.cell (t := 4) ((World.putObj_heap_other (by omega)).trans h2)), by rw [h1], Upd.ext h3 (grownBy_putObj' _ _ _) (by omega)⟩
  case round =>
    rintro i W r ⟨⟨h0, h1⟩, h2⟩ hW hD hLp hi
    gi_wp2
    refine ⟨trivial, trivial, ?_⟩
    rintro W5 r' hW5
    rw [HZ.out] at hW hD hLp hW5
    have hL5 : W5.heap[w.heap.size + 4 + 1]? = some (.loop r') := by rw [hW5]; exact World.putObj_heap_same (by omega)
    have hD5 : W5.heap[w.heap.size + 4]? = some (.deferred (some [])) := by rw [hW5, World.putObj_heap_other (by omega)]; exact hD
    replace h0 : TchS w a b W5 := by rw [hW5]; exact h0.put (by omega) _
    replace h2 : Boxed W5 (w.heap.size + 3) 9 (upLeft a (i + 1)) := by rw [hW5]; exact (World.putObj_heap_other (by omega)).trans h2
    clear hW5 hD hLp
    simp only [upV]
    have kb := h0.bb.cell
    have kr := h0.br.cell
    have fr := h0.br.frozen
    have HS := Lib.hid h0
    have H2 := Lib.hid h2
    have HI := Lib.hid hi
    have HD5 := Lib.hid hD5
    have HL5 := Lib.hid hL5
    obtain ⟨X, hX⟩ : ∃ X, mkB (upB a i) = X := ⟨_, rfl⟩
    rw [hX]
    by_cases he : X = b
    · have HT2 := Lib.hid (HT.out.2 (.inl ⟨i, hi, by rw [hX, he]⟩))
      have e1 : (X.toList == b.toList) = true := by rw [he]; simp
      clear hi h0 h2 hX hz4 hS4 b4
      gi_wp2
      obtain ⟨hY, hYx⟩ := HS.out.yes (.bool true)
      exact ⟨Below.heap_setCell _ _ _ _ (by have := HZ.out; show _ ≠ w.heap.size + 2; omega), Below.heap_setCell _ _ _ _ (by have := HZ.out; show _ ≠ w.heap.size + 2; omega), rfl, HT2.out, hY, hYx⟩
    · have HT2 := Lib.hid (show ∀ y, y < i + 1 → mkB (upB a y) ≠ b from fun y hy => by
        rcases Nat.lt_succ_iff_lt_or_eq.1 hy with h | rfl
        · exact h1.out y h
        · rw [hX]; exact he)
      have e2 : ¬ X.toList = b.toList := fun h => he (by rw [Lib.toList_data, Lib.toList_data] at h; exact ByteArray.ext (Array.ext' h))
      have e1 : (X.toList == b.toList) = false := by simpa using e2
      clear hi h0 h2 hX hz4 hS4 b4 h1
      gi_wp2
      exact ⟨rfl, rfl, ⟨HS.out, HT2⟩, H2.out⟩
  case done =>
    rintro W ⟨⟨h0, h1⟩, h2⟩ hD
    rw [HZ.out] at hD
    have hm : w.heap.size + 5 ≤ W.heap.size := by
      have := Array.getElem?_eq_some_iff.1 hD
      obtain ⟨hlt, _⟩ := this
      omega
    refine wpAt_seq ?_
    refine wpAt_seq_k (fun K hK => ?_)
    have k1 := h0.bb.cell
    have H0 := Lib.hid h0
    have H2 := Lib.hid h2
    have HD := Lib.hid hD
    have HM := Lib.hid hm
    go_wp2_with (go_at_call 43; refine (above1_any b _).mono ?_; rintro e w4 ⟨rfl, rfl⟩)
    obtain ⟨W8, hW8⟩ : ∃ W8, W.alloc (.cells #[.string b] 9) = W8 := ⟨_, rfl⟩
    obtain ⟨m, hmm⟩ : ∃ m, W.heap.size = m := ⟨_, rfl⟩
    have b8 : Boxed W8 m 9 (.string b) := by
      rw [← hW8, ← hmm]
      exact Boxed.new W 9 (.string b)
    have hx8 : Ext W W8 := by rw [← hW8]; exact (Ext.refl _).alloc _
    have hz8 : W8.heap.size = m + 1 := by rw [← hW8, World.size_alloc, hmm]
    have hS8 := H0.out.ext hx8
    have hD8 : W8.heap[w.heap.size + 4]? = some (.deferred (some [])) := hx8.heap HD.out
    have hm5 : w.heap.size + 5 ≤ m := by have := HM.out; omega
    rw [hmm, hW8]
    clear hW8 hx8 k1 hD hm h0 h2 hz4 hS4 b4
    have HZ8 := Lib.hid hz8
    refine wpAt_block ?_
    refine wpAt_rangeFuncK (hf := Tryd.func18) (gf := 61) (lb := #[.pointer (some ⟨m, 0, none⟩)]) rfl (enters_of Tryd.func61 (by kernel_rfl) rfl)
      (above_seq b m hb) (by omega) (fun _ => rfl)
      (fun i W => (TchS w a b W ∧ W.heap[w.heap.size + 4]? = some (.deferred (some [])) ∧ Hid (∀ y, y < i → mkB (upB b y) ≠ a)) ∧ Boxed W m 9 (upLeft b i))
      (fun i W => (TchS w a b W ∧ W.heap[w.heap.size + 4]? = some (.deferred (some [])) ∧ Hid (∀ y, y < i → mkB (upB b y) ≠ a)) ∧ Boxed W m 9 (upLeft b (i + 1)))
      (fun _ c W => c = .ret ∧ touchN a b = true ∧ Boxed W (w.heap.size + 2) 4 (.bool true) ∧ Ext w W ∧ W.heap[w.heap.size + 4]? = some (.deferred (some [])))
      (fun _ _ _ => False)
      (fun i A B ⟨⟨h0, h3, h1⟩, h2⟩ hx => ⟨⟨h0.ext hx, hx.heap h3, h1⟩, hx.heap h2⟩)
      (fun i A B ⟨⟨h0, h3, h1⟩, h2⟩ hx => ⟨⟨h0.ext hx, hx.heap h3, h1⟩, hx.heap h2⟩)
      (fun _ _ A B ⟨h0, h1, h2, h3, h4⟩ hx => ⟨h0, h1, hx.heap h2, h3.trans hx, hx.heap h4⟩)
      (fun i A r r' ⟨⟨h0, h3, h1⟩, h2⟩ hl => ⟨⟨h0.put (by omega) _, (World.putObj_heap_other (by omega)).trans h3, h1⟩, (World.putObj_heap_other (by omega)).trans h2⟩)
      (fun _ _ A r r' ⟨h0, h1, h2, h3, h4⟩ _ => ⟨h0, h1, (World.putObj_heap_other (by omega)).trans h2, Upd.ext h3 (grownBy_putObj' _ _ _) (by omega), (World.putObj_heap_other (by omega)).trans h4⟩)
      (fun i A h => h.2)
      (fun i A hi ⟨⟨h0, h3, h1⟩, h2⟩ => ⟨⟨h0.set (by omega) _, (Below.heap_setCell _ _ _ _ (by show _ ≠ m; omega)).trans h3, h1⟩, h2.set _⟩)
      (fun i A _ => trivial)
      (fun i A ⟨⟨h0, h3, h1⟩, h2⟩ => ⟨trivial, h2⟩)
      ⟨⟨hS8, hD8, Lib.hid (fun y hy => by omega)⟩, b8⟩ ?round2 ?done2 ?stop2 (fun _ _ _ _ h _ => h.elim)
    case stop2 =>
      rintro i c W9 hi ⟨rfl, h1, h2, h3, h4⟩ hD9
      have hWz := h3.size
      rw [HZ8.out] at hD9
      go_wp2
      refine ⟨by simp, .inl ⟨_, _, rfl, run_takeDeferred (by rw [HZ8.out]; exact hD9), ?_⟩⟩
      refine ⟨by simp, .inl ⟨_, _, rfl, run_takeDeferred ((World.putObj_heap_other (by have := HZ8.out; omega)).trans h4), ?_⟩⟩
      exact ⟨_, tch_end (w.heap.size + 2) _ _ true rfl (Boxed.cell (t := 4) ((World.putObj_heap_other (by omega)).trans ((World.putObj_heap_other (by have := HZ8.out; omega)).trans h2))), by rw [h1], Upd.ext (Upd.ext h3 (grownBy_putObj' _ _ _) (by have := HZ8.out; omega)) (grownBy_putObj' _ _ _) (by omega)⟩
    case round2 =>
      rintro i W r ⟨⟨h0, h3, h1⟩, h2⟩ hW hD hLp hi
      gi_wp2
      refine ⟨trivial, trivial, ?_⟩
      rintro W5 r' hW5
      rw [HZ8.out] at hW hD hLp hW5
      replace h0 : TchS w a b W5 := by rw [hW5]; exact h0.put (by omega) _
      replace h2 : Boxed W5 m 9 (upLeft b (i + 1)) := by rw [hW5]; exact (World.putObj_heap_other (by omega)).trans h2
      replace h3 : W5.heap[w.heap.size + 4]? = some (.deferred (some [])) := by rw [hW5]; exact (World.putObj_heap_other (by omega)).trans h3
      clear hW5 hD hLp
      simp only [upV]
      have kb := h0.ba.cell
      have kr := h0.br.cell
      have fr := h0.br.frozen
      have HS := Lib.hid h0
      have H2 := Lib.hid h2
      have HI := Lib.hid hi
      have H3 := Lib.hid h3
      obtain ⟨X, hX⟩ : ∃ X, mkB (upB b i) = X := ⟨_, rfl⟩
      rw [hX]
      by_cases he : X = a
      · have HT2 := Lib.hid (HT.out.2 (.inr ⟨i, hi, by rw [hX, he]⟩))
        have e1 : (X.toList == a.toList) = true := by rw [he]; simp
        clear hi h0 h2 h3 hX hz8 hS8 hD8 b8
        gi_wp2
        obtain ⟨hY, hYx⟩ := HS.out.yes (.bool true)
        exact ⟨Below.heap_setCell _ _ _ _ (by have := HZ8.out; show _ ≠ w.heap.size + 2; omega), Below.heap_setCell _ _ _ _ (by have := HZ8.out; show _ ≠ w.heap.size + 2; omega), rfl, HT2.out, hY, hYx, (Below.heap_setCell _ _ _ _ (by show _ ≠ w.heap.size + 2; omega)).trans H3.out⟩
      · have HT2 := Lib.hid (show ∀ y, y < i + 1 → mkB (upB b y) ≠ a from fun y hy => by
          rcases Nat.lt_succ_iff_lt_or_eq.1 hy with h | rfl
          · exact h1.out y h
          · rw [hX]; exact he)
        have e2 : ¬ X.toList = a.toList := fun h => he (by rw [Lib.toList_data, Lib.toList_data] at h; exact ByteArray.ext (Array.ext' h))
        have e1 : (X.toList == a.toList) = false := by simpa using e2
        clear hi h0 h2 h3 hX hz8 hS8 hD8 b8 h1
        gi_wp2
        exact ⟨rfl, rfl, ⟨HS.out, H3.out, HT2⟩, H2.out⟩
    case done2 =>
      rintro W9 ⟨⟨h0, h3, h9⟩, h2⟩ hD9
      rw [HZ8.out] at hD9
      have hF : touchN a b = false := by
        cases hb : touchN a b with
        | false => rfl
        | true =>
          rcases HT.out.1 hb with ⟨i, hi, he⟩ | ⟨i, hi, he⟩
          · exact absurd he (h1.out i hi)
          · exact absurd he (h9.out i hi)
      have HF := Lib.hid hF
      have kr := h0.br.cell
      have fr := h0.br.frozen
      have HS := Lib.hid h0
      have H3 := Lib.hid h3
      clear hF h0 h3 h9 h2 hz8 hS8 hD8 b8 h1
      refine wpAt_of_wp ?_
      go_wp2
      obtain ⟨hY, hYx⟩ := HS.out.yes (.bool false)
      refine ⟨by simp, .inl ⟨_, _, rfl, run_takeDeferred ((Below.heap_setCell _ _ _ _ (by have := HZ8.out; show _ ≠ w.heap.size + 2; omega)).trans (by rw [HZ8.out]; exact hD9)), ?_⟩⟩
      refine ⟨by simp, .inl ⟨_, _, rfl, run_takeDeferred ((World.putObj_heap_other (by have := HZ8.out; omega)).trans ((Below.heap_setCell _ _ _ _ (by show _ ≠ w.heap.size + 2; omega)).trans H3.out)), ?_⟩⟩
      exact ⟨_, tch_end (w.heap.size + 2) _ _ false rfl (Boxed.cell (t := 4) ((World.putObj_heap_other (by have := HZ8.out; omega)).trans ((World.putObj_heap_other (by have := HZ8.out; omega)).trans hY))), by rw [HF.out], Upd.ext (Upd.ext hYx (grownBy_putObj' _ _ _) (by have := HZ8.out; omega)) (grownBy_putObj' _ _ _) (by have := HZ8.out; omega)⟩
end
section
open Go.RowKit
set_option linter.unusedVariables false
set_option linter.unusedSimpArgs false
set_option linter.unusedSectionVars false
set_option maxRecDepth 100000
attribute [local go_sem] Oper.semAt_some

/-- the first "/" of a text: what stands ahead and behind -/
def firstS : List UInt8 → Option (List UInt8 × List UInt8)
  | [] => none
  | x :: r => if x = 47 then some ([], r) else (firstS r).map fun z => (x :: z.1, z.2)
theorem cut_first : ∀ t : List UInt8, cutC 47 t = match firstS t with
    | none => [t]
    | some (a, r) => a :: cutC 47 r
  | [] => by rw [cutC, firstS]
  | x :: r => by
    rw [cutC, firstS]
    by_cases h : x = 47
    · rw [if_pos h, if_pos h]
    · rw [if_neg h, if_neg h, cut_first r]
      cases hf : firstS r with
      | none => rfl
      | some z => rfl
theorem index_first : ∀ t : List UInt8, Lib.indexByte t 47 = match firstS t with
    | none => -1
    | some (a, _) => (a.length : Int)
  | [] => by rw [firstS]; rfl
  | x :: r => by
    have ih := index_first r
    rw [Lib.indexByte, firstS]
    by_cases h : x = 47
    · rw [if_pos (by simpa using h), if_pos h]
      rfl
    · rw [if_neg (by simpa using h), if_neg h, ih]
      cases hf : firstS r with
      | none => rfl
      | some z =>
        simp only [Option.map_some]
        rw [if_neg (by
          rw [beq_iff_eq]
          omega)]
        simp
theorem first_app : ∀ {t a r : List UInt8}, firstS t = some (a, r) → t = a ++ 47 :: r
  | [], a, r, h => by rw [firstS] at h; cases h
  | x :: q, a, r, h => by
    rw [firstS] at h
    by_cases e : x = 47
    · rw [if_pos e] at h
      injection h with h
      injection h with h1 h2
      subst h1 h2
      rw [e]
      rfl
    · rw [if_neg e] at h
      cases hf : firstS q with
      | none => rw [hf] at h; cases h
      | some z =>
        obtain ⟨a', r'⟩ := z
        rw [hf] at h
        injection h with h
        injection h with h1 h2
        subst h1 h2
        rw [first_app hf]
        rfl
/-- what is left at part i -/
def restS (t : List UInt8) : Nat → List UInt8
  | 0 => t
  | i + 1 => match firstS (restS t i) with
    | none => []
    | some (_, r) => r
theorem rest_cut (t : List UInt8) : ∀ i, i < (cutC 47 t).length → cutC 47 (restS t i) = (cutC 47 t).drop i
  | 0, _ => rfl
  | i + 1, h => by
    have ih := rest_cut t i (by omega)
    have hc := cut_first (restS t i)
    cases hf : firstS (restS t i) with
    | none =>
      rw [hf, ih] at hc
      have := congrArg List.length hc
      simp only [List.length_drop, List.length_cons, List.length_nil] at this
      omega
    | some z =>
      obtain ⟨a, r⟩ := z
      rw [hf, ih] at hc
      simp only at hc
      have e : restS t (i + 1) = r := by unfold restS; rw [hf]
      rw [e, ← List.drop_drop, hc]
      rfl
theorem rest_len (t : List UInt8) : ∀ i, (restS t i).length ≤ t.length
  | 0 => Nat.le_refl _
  | i + 1 => by
    have ih := rest_len t i
    unfold restS
    cases hf : firstS (restS t i) with
    | none => simp
    | some z =>
      obtain ⟨a, r⟩ := z
      have := congrArg List.length (first_app hf)
      simp at this ⊢
      omega
/-- part i: the last one, or one ahead of a "; " -/
theorem part_at (t : List UInt8) (i : Nat) (h : i < (cutC 47 t).length) : (firstS (restS t i) = none ∧ i + 1 = (cutC 47 t).length ∧ (cutC 47 t).getD i [] = restS t i) ∨
    ∃ a r, firstS (restS t i) = some (a, r) ∧ i + 1 < (cutC 47 t).length ∧ (cutC 47 t).getD i [] = a ∧ restS t (i + 1) = r := by
  have hr := rest_cut t i h
  have hc := cut_first (restS t i)
  have hg : (cutC 47 t).getD i [] = ((cutC 47 t).drop i).getD 0 [] := by simp [List.getD_eq_getElem?_getD]
  cases hf : firstS (restS t i) with
  | none =>
    rw [hf, hr] at hc
    left
    refine ⟨rfl, ?_, by rw [hg, hc]; rfl⟩
    have := congrArg List.length hc
    simp only [List.length_drop, List.length_cons, List.length_nil] at this
    omega
  | some z =>
    obtain ⟨a, r⟩ := z
    rw [hf, hr] at hc
    simp only at hc
    right
    refine ⟨a, r, rfl, ?_, by rw [hg, hc]; rfl, by show (match firstS (restS t i) with | none => [] | some (_, r) => r) = r; rw [hf]⟩
    have := congrArg List.length hc
    have h2 := cutC_ne 47 r
    have h3 : 0 < (cutC 47 r).length := by
      cases hq : cutC 47 r with
      | nil => exact absurd hq h2
      | cons x l => simp
    simp only [List.length_drop, List.length_cons] at this
    omega
def partV (s : ByteArray) (i : Nat) : Value := .string (mkB ((cutC 47 s.data.toList).getD i []))
/-- what the iterator's cell holds: ahead of yield i what was there at yield i - 1 -/
def leftV (s : ByteArray) : Nat → Value
  | 0 => .string s
  | i + 1 => .string (mkB (restS s.data.toList i))
theorem splitseq_any (s : ByteArray) (w : World) :
    Calls Tryd.prog 20 #[.string s, .string ⟨#[47]⟩] w fun e w' => e = .returned (.func (.func 63) #[] #[.pointer (some ⟨w.heap.size + 1, 0, none⟩), .pointer (some ⟨w.heap.size, 0, none⟩), .pointer (some ⟨w.heap.size + 2, 0, none⟩)]) ∧
      w' = ((w.alloc (.cells #[.string s] 9)).alloc (.cells #[.string ⟨#[47]⟩] 9)).alloc (.cells #[.int .i64 0] 3) := by
  have hmf : ∀ (fn : Fn) (first cap : Array Value) (w : World), (Instr.makeFunc fn first cap).run Tryd.prog w = .ok (.func fn first cap) w := fun _ _ _ _ => rfl
  have hI : Calls Tryd.prog 45 #[.string s, .string ⟨#[47]⟩, .int .i64 0] w fun e w' => e = .returned (.func (.func 63) #[] #[.pointer (some ⟨w.heap.size + 1, 0, none⟩), .pointer (some ⟨w.heap.size, 0, none⟩), .pointer (some ⟨w.heap.size + 2, 0, none⟩)]) ∧
      w' = ((w.alloc (.cells #[.string s] 9)).alloc (.cells #[.string ⟨#[47]⟩] 9)).alloc (.cells #[.int .i64 0] 3) := by
    go_enter Tryd.func45, Tryd.ntmps45
    go_wp2
    go_ret
    exact ⟨rfl, rfl⟩
  go_enter Tryd.func20, Tryd.ntmps20
  go_wp2_with (go_at_call 45; refine hI.mono ?_; rintro e w1 ⟨rfl, rfl⟩)
  go_ret
  exact ⟨rfl, rfl⟩
/-- what the iterator reads beside its own cell -/
def SepK (c : Nat) (A : World) : Prop := A.cell? ⟨c + 1, 0, none⟩ = some (.string ⟨#[47]⟩) ∧ A.cell? ⟨c + 2, 0, none⟩ = some (.int .i64 0)
set_option maxHeartbeats 8000000 in
theorem splitseq_seq (s : ByteArray) (c : Nat) (hp : s.size ≤ 1000000) :
    SeqK Tryd.prog 63 #[.pointer (some ⟨c + 1, 0, none⟩), .pointer (some ⟨c, 0, none⟩), .pointer (some ⟨c + 2, 0, none⟩)] (fun i => #[partV s i]) (cutC 47 s.data.toList).length c 9 (leftV s) (SepK c) := by
  intro l JA JB Jx Jp W hJA hJB hJx hK hS hKA hKB hY h0
  have hJK := hK
  have hN : 0 < (cutC 47 s.data.toList).length := by
    cases hq : cutC 47 s.data.toList with
    | nil => exact absurd hq (cutC_ne 47 _)
    | cons x l => simp
  have hb0 : JB 0 W := by
    have h1 := hS 0 W hN h0
    rw [setCell_same (show Boxed W c 9 (leftV s 1) from hK 0 W h0)] at h1
    exact h1
  obtain ⟨⟨k1, k2⟩, kb⟩ := hKB 0 W hb0
  refine callsIn_of_wp Tryd.func63 rfl trivial ?_ rfl
  simp only [Tryd.ntmps63, List.size_toArray, List.length_cons, List.length_nil, Nat.reduceAdd, Nat.reduceSub, Array.replicate_succ, Array.replicate_zero, List.push_toArray, List.append_toArray, List.nil_append, List.cons_append]
  gi_wp2
  clear k1 k2 kb
  gi_loopg [7, 8] (cutC 47 s.data.toList).length (fun k _ _ wr => ∃ j : Nat, k + j = (cutC 47 s.data.toList).length ∧ j < (cutC 47 s.data.toList).length ∧ JB j wr)
  case atStart => exact ⟨0, by omega, hN, hb0⟩
  case round =>
    obtain ⟨j, hk, hlt, hj⟩ := hrel
    obtain ⟨⟨k1, k2⟩, kb⟩ := hKB j wr hj
    have kf := box_frozen kb
    have hY1 := fun A hA => hY j A hA hlt
    have hlen := rest_len s.data.toList j
    have hsz : s.data.toList.length = s.size := by simp
    have hz : (mkB (restS s.data.toList j)).size ≤ 1000000 := by rw [mkB_size]; omega
    have hI := fun W => Tryd.strings_Index_one (mkB (restS s.data.toList j)) 47 W
    rw [mkB_toList] at hI
    rw [index_first] at hI
    have kc : wr.cell? ⟨c, 0, none⟩ = some (.string (mkB (restS s.data.toList j))) := box_cell kb
    simp only [partV] at hY1
    rcases part_at s.data.toList j hlt with ⟨hf, hlast, hpt⟩ | ⟨a, r, hf, hnext, hpt, hrs⟩
    · rw [hf] at hI
      rw [hpt] at hY1
      simp only at hI
      have HJ := Lib.hid hlast
      clear hf hpt hlen hsz hlast hk
      obtain ⟨R, hRR⟩ : ∃ R, mkB (restS s.data.toList j) = R := ⟨_, rfl⟩
      rw [hRR] at kc hz
      simp only [hRR] at hI hY1
      clear hRR kb
      obtain ⟨fn, tmps, assign, body, hy, hR⟩ := hY1 _ hj
      gi_wp2_with (refine ⟨trivial, rfl, ?_⟩; refine (callsIn_wide.2 (hI _)).mono ?_; rintro e w5 ⟨rfl, h5⟩; subst h5)
      refine ⟨rfl, ?_⟩
      refine hR.mono ?_
      intro e W3 h3
      rcases yieldb_cases h3 with ⟨ch, rfl, hp3⟩ | ⟨t, rfl, h4⟩
      · exact ⟨rfl, .inr ⟨j, ch, hlt, rfl, hp3⟩⟩
      · clear h3
        gi_wp2
        go_end0
        rcases h4 with ⟨rfl, hj3⟩ | ⟨rfl, hx3⟩
        · rw [HJ.out] at hj3
          exact .inl ⟨⟨_, rfl⟩, .inl hj3⟩
        · exact .inl ⟨⟨_, rfl⟩, .inr ⟨j, hlt, hx3⟩⟩
    · rw [hf] at hI
      rw [hpt] at hY1
      simp only at hI
      have ha := first_app hf
      obtain ⟨gp, rfl⟩ : ∃ gp, gk = gp + 1 := ⟨gk - 1, by omega⟩
      have HGK := Lib.hid hk
      have HN := Lib.hid hnext
      have hS1 := fun A hA => hS (j + 1) A hnext hA
      have hcs : leftV s (j + 1 + 1) = .string (mkB r) := by show Value.string (mkB (restS s.data.toList (j + 1))) = _; rw [hrs]
      rw [hcs] at hS1
      have hle : a.length + 1 + r.length ≤ 1000000 := by
        rw [ha] at hlen
        simp at hlen
        omega
      have s1 := fun w => str_to (mkB (restS s.data.toList j)) a.length (by rw [mkB_size, ha]; simp) w
      have s2 := fun w => str_from (mkB (restS s.data.toList j)) (a.length + 1) (by rw [mkB_size, ha]; simp) w
      have t1 : (mkB (restS s.data.toList j)).data.toList.take a.length = a := by rw [mkB_toList, ha]; simp
      have t2 : (mkB (restS s.data.toList j)).data.toList.drop (a.length + 1) = r := by rw [mkB_toList, ha, List.drop_append]; simp
      rw [t1] at s1
      rw [t2] at s2
      obtain ⟨R, hRR⟩ : ∃ R, mkB (restS s.data.toList j) = R := ⟨_, rfl⟩
      rw [hRR] at kc hz
      simp only [hRR] at hI s1 s2
      have kcn : ∀ A, JA (j + 1) A → A.cell? ⟨c, 0, none⟩ = some (.string R) := fun A hA => by
        have := box_cell (hJK _ _ hA)
        rw [this, ← hRR]
        rfl
      clear hRR kb t1 t2 hpt hrs hf ha hlen hsz hnext hcs
      generalize mkB a = L at *
      generalize mkB r = R2 at *
      obtain ⟨m2, hm2⟩ : ∃ m2, a.length + 1 = m2 := ⟨_, rfl⟩
      rw [hm2] at s2 hle
      have hd : IntKind.i64.wrap ((a.length : Int) + 1) = (m2 : Int) := (IntWalk.i64_in _ ⟨by omega, by omega⟩).trans (by omega)
      have hd0 : IntKind.i64.wrap (a.length : Int) = (a.length : Int) := (IntWalk.i64_in _ ⟨by omega, by omega⟩).trans (by omega)
      have hp0 : ¬ (a.length : Int) < 0 := by omega
      clear hm2 hle
      generalize a.length = n at *
      obtain ⟨fn, tmps, assign, body, hy, hR⟩ := hY1 _ hj
      gi_wp2_with (refine ⟨trivial, rfl, ?_⟩; refine (callsIn_wide.2 (hI _)).mono ?_; rintro e w5 ⟨rfl, h5⟩; subst h5)
      refine ⟨rfl, ?_⟩
      refine hR.mono ?_
      intro e W3 h3
      rcases yieldb_cases h3 with ⟨ch, rfl, hp3⟩ | ⟨t, rfl, h4⟩
      · exact ⟨rfl, .inr ⟨j, ch, hlt, rfl, hp3⟩⟩
      · clear h3
        rcases h4 with ⟨rfl, hj3⟩ | ⟨rfl, hx3⟩
        · have kc3 := kcn _ hj3
          have kf3 := box_frozen (hJK _ _ hj3)
          obtain ⟨k31, k32⟩ := hKA _ _ hj3
          have hS3 := hS1 _ hj3
          clear k1 k2 kc kf kcn hj
          gi_wp2
          gi_roundg gp
          case measure => omega
          case rel => exact ⟨j + 1, by have := HGK.out; omega, HN.out, hS3⟩
        · gi_wp2
          refine bodyPost_ret (results_none rfl _ _ _) rfl ?_
          exact .inl ⟨⟨_, rfl⟩, .inr ⟨j, hlt, hx3⟩⟩
end
end Go.Proofs.YtaciedooeeklpaaDoor
