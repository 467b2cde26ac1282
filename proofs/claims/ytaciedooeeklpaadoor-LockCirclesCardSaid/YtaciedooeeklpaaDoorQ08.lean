/- LkP; LkQ; LkR; LkS (merged by group.py) -/
import Derived.Test.YtaciedooeeklpaaDoorQ07
import Derived.WideKeyEntry
import Derived.DeepKeys4
import Derived.Maps.OwnSet
import Derived.Maps.RangeWalk
namespace Go.Proofs.YtaciedooeeklpaaDoor
section
open Go.RowKit
set_option linter.unusedVariables false
set_option linter.unusedSimpArgs false
set_option linter.unusedSectionVars false
set_option maxRecDepth 100000
attribute [local go_sem] Oper.semAt_some

/-- the boxes of Name ahead of the iterator's part i -/
structure NmS (w : World) (i : Nat) (W : World) : Prop where
  br : Boxed W w.heap.size 4 (.bool false)
  bn : Boxed W (w.heap.size + 1) 3 (.int .i64 i)
  bs : Boxed W (w.heap.size + 3) 9 (.string ⟨#[47]⟩)
  bz : Boxed W (w.heap.size + 4) 3 (.int .i64 0)
  x : Ext w W
theorem NmS.ext {w : World} {i : Nat} {W W' : World} (h : NmS w i W) (hx : Ext W W') : NmS w i W' := ⟨hx.heap h.br, hx.heap h.bn, hx.heap h.bs, hx.heap h.bz, h.x.trans hx⟩
theorem NmS.put {w : World} {i : Nat} {W : World} (h : NmS w i W) {k : Nat} (hk : w.heap.size + 5 ≤ k) (o : Obj) : NmS w i (W.putObj k o) :=
  ⟨(World.putObj_heap_other (by omega)).trans h.br, (World.putObj_heap_other (by omega)).trans h.bn, (World.putObj_heap_other (by omega)).trans h.bs, (World.putObj_heap_other (by omega)).trans h.bz, Upd.ext h.x (grownBy_putObj' _ _ _) (by omega)⟩
theorem NmS.left {w : World} {i : Nat} {W : World} (h : NmS w i W) (v : Value) : NmS w i (W.setCell ⟨w.heap.size + 2, 0, none⟩ v) :=
  ⟨(Below.heap_setCell _ _ _ _ (by show _ ≠ w.heap.size + 2; omega)).trans h.br, (Below.heap_setCell _ _ _ _ (by show _ ≠ w.heap.size + 2; omega)).trans h.bn, (Below.heap_setCell _ _ _ _ (by show _ ≠ w.heap.size + 2; omega)).trans h.bs, (Below.heap_setCell _ _ _ _ (by show _ ≠ w.heap.size + 2; omega)).trans h.bz, h.x.setCell (by simp) _⟩
theorem NmS.more {w : World} {i : Nat} {W : World} (h : NmS w i W) : NmS w (i + 1) (W.setCell ⟨w.heap.size + 1, 0, none⟩ (.int .i64 ((i : Int) + 1))) :=
  ⟨(Below.heap_setCell _ _ _ _ (by show _ ≠ w.heap.size + 1; omega)).trans h.br, h.bn.set _, (Below.heap_setCell _ _ _ _ (by show _ ≠ w.heap.size + 1; omega)).trans h.bs, (Below.heap_setCell _ _ _ _ (by show _ ≠ w.heap.size + 1; omega)).trans h.bz, h.x.setCell (by simp) _⟩
theorem NmS.res {w : World} {i : Nat} {W : World} (h : NmS w i W) (v : Value) : Boxed (W.setCell ⟨w.heap.size, 0, none⟩ v) w.heap.size 4 v ∧ Ext w (W.setCell ⟨w.heap.size, 0, none⟩ v) :=
  ⟨h.br.set v, h.x.setCell (by simp) _⟩
theorem NmS.sep {w : World} {i : Nat} {W : World} (h : NmS w i W) : SepK (w.heap.size + 2) W := ⟨h.bs.cell, h.bz.cell⟩
theorem nm_end (n : Nat) (W' : World) (tmps : Array Value) (v : Bool) (h2 : tmps.getD 2 undef = .pointer (some ⟨n, 0, none⟩)) (q : W'.cell? ⟨n, 0, none⟩ = some (.bool v)) :
    (results Tryd.f8 tmps).run Tryd.prog W' = .ok (.bool v) W' := by
  have h2' : tmps[2]?.getD undef = .pointer (some ⟨n, 0, none⟩) := by simpa using h2
  simp only [results, Tryd.results8]
  simp [Sem.run_bind, Result.andThen, h2', go_sem, q]
theorem wordN_bad0 : wordN [] = false := by rfl
theorem wordN_long {p : List UInt8} (h : 16 < p.length) : wordN p = false := by
  unfold wordN
  rw [Bool.and_eq_false_iff]
  exact .inr (decide_eq_false (by omega))
theorem wordN_badC {p : List UInt8} {j : Nat} (hj : j < p.length) (h : wordC (p.getD j 0) = false) : wordN p = false := by
  unfold wordN
  cases e : p.all wordC with
  | false => rfl
  | true => have := all_getD.1 e j hj; rw [h] at this; cases this
theorem wordN_good {p : List UInt8} (h0 : p ≠ []) (h1 : p.length ≤ 16) (h : ∀ y, y < p.length → wordC (p.getD y 0) = true) : wordN p = true := by
  unfold wordN
  rw [all_getD.2 h, decide_eq_true (show 1 ≤ p.length from List.length_pos_iff.2 h0), decide_eq_true h1]
  rfl
theorem nameN_bad {s : ByteArray} {i : Nat} (hi : i < (cutC 47 s.data.toList).length) (h : wordN (ptN s i) = false) : nameN s = false := by
  unfold nameN
  cases e : (cutC 47 s.data.toList).all wordN with
  | false => rfl
  | true => have := ptN_all.1 e i hi; rw [h] at this; cases this
theorem nameN_many {s : ByteArray} (h : 3 < (cutC 47 s.data.toList).length) : nameN s = false := by
  unfold nameN
  rw [Bool.and_eq_false_iff]
  exact .inr (decide_eq_false (by omega))
theorem nameN_good {s : ByteArray} (h : ∀ y, y < (cutC 47 s.data.toList).length → wordN (ptN s y) = true) (h1 : (cutC 47 s.data.toList).length ≤ 3) : nameN s = true := by
  unfold nameN
  rw [ptN_all.2 h, decide_eq_true h1]
  rfl
set_option maxHeartbeats 8000000 in
theorem lname_any (s : ByteArray) (w : World) (hs : s.size ≤ 1000000) : Calls Tryd.prog 8 #[.string s] w fun e w' => e = .returned (.bool (nameN s)) ∧ Ext w w' := by
  refine calls_of_wpAt Tryd.func8 rfl ?_
  simp only [Tryd.ntmps8, List.size_toArray, List.length_cons, List.length_nil, Nat.reduceAdd, Nat.reduceSub, Array.replicate_succ, Array.replicate_zero, List.push_toArray, List.append_toArray, List.nil_append, List.cons_append]
  refine wpAt_seq_k (fun K hK => ?_)
  go_wp2
  refine wpAt_seq_k (fun K hK => ?_)
  go_wp2
  refine wpAt_seq ?_
  refine wpAt_seq_k (fun K hK => ?_)
  go_wp2_with (go_at_call 20; refine (splitseq_any s _).mono ?_; rintro e w4 ⟨rfl, rfl⟩)
  obtain ⟨W5, hW5⟩ : ∃ W5, ((((w.alloc (.cells #[.bool false] 4)).alloc (.cells #[.int .i64 0] 3)).alloc (.cells #[.string s] 9)).alloc (.cells #[.string ⟨#[47]⟩] 9)).alloc (.cells #[.int .i64 0] 3) = W5 := ⟨_, rfl⟩
  have hz5 : W5.heap.size = w.heap.size + 5 := by rw [← hW5]; simp only [World.size_alloc]
  have bs : Boxed W5 (w.heap.size + 2) 9 (.string s) := by
    rw [← hW5]
    have := Boxed.new ((w.alloc (.cells #[.bool false] 4)).alloc (.cells #[.int .i64 0] 3)) 9 (.string s)
    rw [World.size_alloc, World.size_alloc] at this
    exact (this.alloc _).alloc _
  have hS5 : NmS w 0 W5 := by
    rw [← hW5]
    refine ⟨((((Boxed.new _ _ _).alloc _).alloc _).alloc _).alloc _, ?_, ?_, ?_, (((((Ext.refl _).alloc _).alloc _).alloc _).alloc _).alloc _⟩
    · have := Boxed.new (w.alloc (.cells #[.bool false] 4)) 3 (.int .i64 0)
      rw [World.size_alloc] at this
      exact ((this.alloc _).alloc _).alloc _
    · have := Boxed.new (((w.alloc (.cells #[.bool false] 4)).alloc (.cells #[.int .i64 0] 3)).alloc (.cells #[.string s] 9)) 9 (.string ⟨#[47]⟩)
      rw [World.size_alloc, World.size_alloc, World.size_alloc] at this
      exact this.alloc _
    · have := Boxed.new ((((w.alloc (.cells #[.bool false] 4)).alloc (.cells #[.int .i64 0] 3)).alloc (.cells #[.string s] 9)).alloc (.cells #[.string ⟨#[47]⟩] 9)) 3 (.int .i64 0)
      rw [World.size_alloc, World.size_alloc, World.size_alloc, World.size_alloc] at this
      exact this
  rw [hW5]
  clear hW5
  have HZ := Lib.hid hz5
  refine wpAt_block ?_
  refine wpAt_rangeFuncK (hf := Tryd.func8) (gf := 63) (lb := #[.pointer (some ⟨w.heap.size + 2 + 1, 0, none⟩), .pointer (some ⟨w.heap.size + 2, 0, none⟩), .pointer (some ⟨w.heap.size + 2 + 2, 0, none⟩)]) rfl (enters_of Tryd.func63 (by kernel_rfl) rfl)
    (splitseq_seq s (w.heap.size + 2) hs) (by omega) (fun _ => rfl)
    (fun i W => (NmS w i W ∧ i ≤ 3 ∧ Hid (∀ y, y < i → wordN (ptN s y) = true)) ∧ Boxed W (w.heap.size + 2) 9 (leftV s i))
    (fun i W => (NmS w i W ∧ i ≤ 3 ∧ Hid (∀ y, y < i → wordN (ptN s y) = true)) ∧ Boxed W (w.heap.size + 2) 9 (leftV s (i + 1)))
    (fun _ c W => c = .ret ∧ nameN s = false ∧ Boxed W w.heap.size 4 (.bool false) ∧ Ext w W)
    (fun _ _ _ => False)
    (fun i A B ⟨⟨h0, h1⟩, h2⟩ hx => ⟨⟨h0.ext hx, h1⟩, hx.heap h2⟩)
    (fun i A B ⟨⟨h0, h1⟩, h2⟩ hx => ⟨⟨h0.ext hx, h1⟩, hx.heap h2⟩)
    (fun _ _ A B ⟨h0, h1, h2, h3⟩ hx => ⟨h0, h1, hx.heap h2, h3.trans hx⟩)
    (fun i A r r' ⟨⟨h0, h1⟩, h2⟩ hl => ⟨⟨h0.put (by omega) _, h1⟩, (World.putObj_heap_other (by omega)).trans h2⟩)
    (fun _ _ A r r' ⟨h0, h1, h2, h3⟩ _ => ⟨h0, h1, (World.putObj_heap_other (by omega)).trans h2, Upd.ext h3 (grownBy_putObj' _ _ _) (by omega)⟩)
    (fun i A h => h.2)
    (fun i A hi ⟨⟨h0, h1⟩, h2⟩ => ⟨⟨h0.left _, h1⟩, h2.set _⟩)
    (fun i A ⟨⟨h0, h1⟩, h2⟩ => h0.sep)
    (fun i A ⟨⟨h0, h1⟩, h2⟩ => ⟨h0.sep, h2⟩)
    ⟨⟨hS5, by omega, Lib.hid (fun y hy => by omega)⟩, bs⟩ ?round ?done ?stop (fun _ _ _ _ h _ => h.elim)
  case stop =>
    rintro i c W hi ⟨rfl, h1, h2, h3⟩ hD
    have hWz := h3.size
    rw [HZ.out] at hD
    go_wp2
    refine ⟨by simp, .inl ⟨_, _, rfl, run_takeDeferred (by rw [HZ.out]; exact hD), ?_⟩⟩
    exact ⟨_, nm_end w.heap.size _ _ false rfl (Boxed.cell (t := 4) ((World.putObj_heap_other (by have := HZ.out; omega)).trans h2)), by rw [h1], Upd.ext h3 (grownBy_putObj' _ _ _) (by have := HZ.out; omega)⟩
  case done =>
    rintro W ⟨⟨h0, h1, h3⟩, h2⟩ hD
    rw [HZ.out] at hD
    have HF := Lib.hid (nameN_good h3.out h1)
    have kr := h0.br.cell
    have fr := h0.br.frozen
    have HS := Lib.hid h0
    clear h0 h1 h2 h3 hz5 hS5 bs
    refine wpAt_of_wp ?_
    go_wp2
    obtain ⟨hY, hYx⟩ := HS.out.res (.bool true)
    refine ⟨by simp, .inl ⟨_, _, rfl, run_takeDeferred ((Below.heap_setCell _ _ _ _ (by have := HZ.out; show _ ≠ w.heap.size; omega)).trans (by rw [HZ.out]; exact hD)), ?_⟩⟩
    exact ⟨_, nm_end w.heap.size _ _ true rfl (Boxed.cell (t := 4) ((World.putObj_heap_other (by have := HZ.out; omega)).trans hY)), by rw [HF.out], Upd.ext hYx (grownBy_putObj' _ _ _) (by have := HZ.out; omega)⟩
  case round =>
    rintro i W r ⟨⟨h0, h4, h1⟩, h2⟩ hW hD hLp hi
    gi_wp2
    refine ⟨trivial, trivial, ?_⟩
    rintro W6 r' hW6
    rw [HZ.out] at hW hD hLp hW6
    have hs6 : W6.heap.size = W.heap.size := by rw [hW6]; simp [World.putObj]
    replace h0 : NmS w i W6 := by rw [hW6]; exact h0.put (by omega) _
    replace h2 : Boxed W6 (w.heap.size + 2) 9 (leftV s (i + 1)) := by rw [hW6]; exact (World.putObj_heap_other (by omega)).trans h2
    clear hW6 hD hLp hs6 hW
    have hp : partV s i = .string (mkB (ptN s i)) := rfl
    rw [hp]
    have kr := h0.br.cell
    have fr := h0.br.frozen
    have kn := h0.bn.cell
    have fn := h0.bn.frozen
    have hpl := ptN_len s i
    have HL := Lib.hid (And.intro h0 h2)
    have d0 : IntKind.i64.wrap ((i : Int) + 1) = (i : Int) + 1 := IntWalk.i64_in _ ⟨by omega, by omega⟩
    have HS := Lib.hid (h0.more)
    have kr' := (h0.more).br.cell
    have fr' := (h0.more).br.frozen
    have HB2 := Lib.hid (show Boxed (W6.setCell ⟨w.heap.size + 1, 0, none⟩ (.int .i64 ((i : Int) + 1))) (w.heap.size + 2) 9 (leftV s (i + 1)) from (Below.heap_setCell _ _ _ _ (by show _ ≠ w.heap.size + 1; omega)).trans h2)
    have HMANY := fun h => Lib.hid (nameN_many (s := s) h)
    have HBAD := fun h => Lib.hid (nameN_bad (s := s) hi h)
    have HALL := fun (h : wordN (ptN s i) = true) => Lib.hid (show ∀ y, y < i + 1 → wordN (ptN s y) = true from fun y hy => by
        rcases Nat.lt_succ_iff_lt_or_eq.1 hy with h' | rfl
        · exact h1.out y h'
        · exact h)
    have HI := Lib.hid hi
    obtain ⟨X, hX⟩ : ∃ X : ByteArray, ptN s i = X.data.toList := ⟨mkB (ptN s i), (mkB_toList _).symm⟩
    rw [hX] at HBAD HALL hpl ⊢
    rw [mkB_of]
    have la : X.data.toList.length = X.size := by simp
    rw [la] at hpl
    clear hX hp h0 h2 h1 hz5 hS5 bs
    by_cases hp0 : X.data.toList = []
    · have HR := HBAD (by rw [hp0]; rfl)
      have e1 : (X.toList == ([] : List UInt8)) = true := by rw [Lib.toList_data, hp0]; rfl
      clear HMANY HBAD HALL hi hp0 la
      gi_wp2
      obtain ⟨hY, hYx⟩ := HS.out.res (.bool false)
      exact ⟨(Below.heap_setCell _ _ _ _ (by have := HZ.out; show _ ≠ w.heap.size; omega)).trans ((Below.heap_setCell _ _ _ _ (by have := HZ.out; show _ ≠ w.heap.size + 1; omega))), (Below.heap_setCell _ _ _ _ (by have := HZ.out; show _ ≠ w.heap.size; omega)).trans ((Below.heap_setCell _ _ _ _ (by have := HZ.out; show _ ≠ w.heap.size + 1; omega))), rfl, HR.out, hY, hYx⟩
    have hX0 : 0 < X.size := by have := List.length_pos_iff.2 hp0; omega
    have e1 : (X.toList == ([] : List UInt8)) = false := by rw [Lib.toList_data]; simpa using hp0
    have e1' : ¬ X.toList = [] := by rw [Lib.toList_data]; exact hp0
    by_cases h16 : 16 < X.size
    · have HR := HBAD (wordN_long (by omega))
      have c1 : (16 : Int) < X.size := by omega
      clear HMANY HBAD HALL hi la hp0
      gi_wp2
      obtain ⟨hY, hYx⟩ := HS.out.res (.bool false)
      exact ⟨(Below.heap_setCell _ _ _ _ (by have := HZ.out; show _ ≠ w.heap.size; omega)).trans ((Below.heap_setCell _ _ _ _ (by have := HZ.out; show _ ≠ w.heap.size + 1; omega))), (Below.heap_setCell _ _ _ _ (by have := HZ.out; show _ ≠ w.heap.size; omega)).trans ((Below.heap_setCell _ _ _ _ (by have := HZ.out; show _ ≠ w.heap.size + 1; omega))), rfl, HR.out, hY, hYx⟩
    have c1 : ¬ (16 : Int) < X.size := by omega
    by_cases hm : 3 ≤ i
    · have HR := HMANY (by have := HI.out; omega)
      have c2 : (3 : Int) < (i : Int) + 1 := by omega
      clear HMANY HBAD HALL hi la hp0
      gi_wp2
      obtain ⟨hY, hYx⟩ := HS.out.res (.bool false)
      exact ⟨(Below.heap_setCell _ _ _ _ (by have := HZ.out; show _ ≠ w.heap.size; omega)).trans ((Below.heap_setCell _ _ _ _ (by have := HZ.out; show _ ≠ w.heap.size + 1; omega))), (Below.heap_setCell _ _ _ _ (by have := HZ.out; show _ ≠ w.heap.size; omega)).trans ((Below.heap_setCell _ _ _ _ (by have := HZ.out; show _ ≠ w.heap.size + 1; omega))), rfl, HR.out, hY, hYx⟩
    have c2 : ¬ (3 : Int) < (i : Int) + 1 := by omega
    have HGD := fun h => HALL (wordN_good hp0 (by omega) h)
    have HBC := fun j hj h => HBAD (wordN_badC (j := j) hj h)
    have HI3 := Lib.hid (show i + 1 ≤ 3 by omega)
    have HLA := Lib.hid la
    clear HMANY HBAD HALL hi la hp0
    gi_wp2
    gi_loopw [25] (fun ix wz => ∃ jj : Nat, jj ≤ X.size ∧ ix = .int .i64 jj ∧ Hid (∀ y, y < jj → wordC (X.data.toList.getD y 0) = true) ∧ wz = W6.setCell ⟨w.heap.size + 1, 0, none⟩ (.int .i64 ((i : Int) + 1))) (fun ix _ => X.size - (intOf ix).toNat)
    case atStart => exact ⟨0, by omega, rfl, Lib.hid (fun y hy => by omega), rfl⟩
    case round =>
      obtain ⟨jj, hj, rfl, hn, rfl⟩ := hrel
      by_cases hlt : jj < X.size
      · have cj : (jj : Int) < X.size := by omega
        have c0 : (0 : Int) ≤ (jj : Int) := by omega
        have d1 : IntKind.i64.wrap ((jj : Int) + 1) = (jj : Int) + 1 := IntWalk.i64_in _ ⟨by omega, by omega⟩
        have s2 := fun w => str_index X jj hlt w
        rw [byteN_getD hlt] at s2
        have HY := fun h => Lib.hid (show ∀ y, y < jj + 1 → wordC (X.data.toList.getD y 0) = true from fun y hy => by
          by_cases e : y = jj
          · subst e; exact h
          · exact hn.out y (by omega))
        have HN := fun (h : wordC (X.data.toList.getD jj 0) = false) => HBC jj (by rw [HLA.out]; exact hlt) h
        have hk := byte_kind (X.data.toList.getD jj 0)
        obtain ⟨z, hzz⟩ : ∃ z : Nat, (X.data.toList.getD jj 0).toNat = z := ⟨_, rfl⟩
        rw [hzz] at s2 hk
        clear hn HGD HBC
        rcases hk with ⟨hw, h1⟩ | ⟨hw, h1, h2⟩ | ⟨hw, h1, h2⟩ | ⟨hw, h1⟩ | ⟨hw, h1, h2, h3⟩ | ⟨hw, h1⟩
        · subst h1
          have HR := HY hw
          clear HY HN hzz hw
          gi_wp2
          go_roundw
          case rel => exact ⟨jj + 1, by omega, by go_num, HR, by first | rfl | trivial⟩
          case measure => simp [intOf, d1]; omega
        · have HR := HY hw
          have e0 : ((z : Int) != 95) = true := by rw [bne_iff_ne]; omega
          have e1 : ((z : Int) == 95) = false := by rw [beq_eq_false_iff_ne]; omega
          have e2 : ¬ (z : Int) < 97 := by omega
          have e3 : ¬ (122 : Int) < z := by omega
          clear HY HN hzz hw h1 h2
          generalize (z : Int) = x at *
          gi_wp2
          go_roundw
          case rel => exact ⟨jj + 1, by omega, by go_num, HR, by first | rfl | trivial⟩
          case measure => simp [intOf, d1]; omega
        · have HR := HY hw
          have e0 : ((z : Int) != 95) = true := by rw [bne_iff_ne]; omega
          have e1 : ((z : Int) == 95) = false := by rw [beq_eq_false_iff_ne]; omega
          have e2 : (z : Int) < 97 := by omega
          have e3 : ¬ (z : Int) < 48 := by omega
          have e4 : ¬ (57 : Int) < z := by omega
          clear HY HN hzz hw h1 h2
          generalize (z : Int) = x at *
          gi_wp2
          go_roundw
          case rel => exact ⟨jj + 1, by omega, by go_num, HR, by first | rfl | trivial⟩
          case measure => simp [intOf, d1]; omega
        · have HR := HN hw
          have e0 : ((z : Int) != 95) = true := by rw [bne_iff_ne]; omega
          have e1 : ((z : Int) == 95) = false := by rw [beq_eq_false_iff_ne]; omega
          have e2 : (z : Int) < 97 := by omega
          have e3 : (z : Int) < 48 := by omega
          clear HY HN hzz hw h1
          generalize (z : Int) = x at *
          gi_wp2
          obtain ⟨hY, hYx⟩ := HS.out.res (.bool false)
          exact ⟨(Below.heap_setCell _ _ _ _ (by have := HZ.out; show _ ≠ w.heap.size; omega)).trans ((Below.heap_setCell _ _ _ _ (by have := HZ.out; show _ ≠ w.heap.size + 1; omega))), (Below.heap_setCell _ _ _ _ (by have := HZ.out; show _ ≠ w.heap.size; omega)).trans ((Below.heap_setCell _ _ _ _ (by have := HZ.out; show _ ≠ w.heap.size + 1; omega))), rfl, HR.out, hY, hYx⟩
        · have HR := HN hw
          have e0 : ((z : Int) != 95) = true := by rw [bne_iff_ne]; omega
          have e1 : ((z : Int) == 95) = false := by rw [beq_eq_false_iff_ne]; omega
          have e2 : (z : Int) < 97 := by omega
          have e3 : ¬ (z : Int) < 48 := by omega
          have e4 : (57 : Int) < z := by omega
          clear HY HN hzz hw h1 h2 h3
          generalize (z : Int) = x at *
          gi_wp2
          obtain ⟨hY, hYx⟩ := HS.out.res (.bool false)
          exact ⟨(Below.heap_setCell _ _ _ _ (by have := HZ.out; show _ ≠ w.heap.size; omega)).trans ((Below.heap_setCell _ _ _ _ (by have := HZ.out; show _ ≠ w.heap.size + 1; omega))), (Below.heap_setCell _ _ _ _ (by have := HZ.out; show _ ≠ w.heap.size; omega)).trans ((Below.heap_setCell _ _ _ _ (by have := HZ.out; show _ ≠ w.heap.size + 1; omega))), rfl, HR.out, hY, hYx⟩
        · have HR := HN hw
          have e0 : ((z : Int) != 95) = true := by rw [bne_iff_ne]; omega
          have e1 : ((z : Int) == 95) = false := by rw [beq_eq_false_iff_ne]; omega
          have e2 : ¬ (z : Int) < 97 := by omega
          have e3 : (122 : Int) < z := by omega
          have e4 : ¬ (z : Int) < 48 := by omega
          have e5 : (57 : Int) < z := by omega
          clear HY HN hzz hw h1
          generalize (z : Int) = x at *
          gi_wp2
          obtain ⟨hY, hYx⟩ := HS.out.res (.bool false)
          exact ⟨(Below.heap_setCell _ _ _ _ (by have := HZ.out; show _ ≠ w.heap.size; omega)).trans ((Below.heap_setCell _ _ _ _ (by have := HZ.out; show _ ≠ w.heap.size + 1; omega))), (Below.heap_setCell _ _ _ _ (by have := HZ.out; show _ ≠ w.heap.size; omega)).trans ((Below.heap_setCell _ _ _ _ (by have := HZ.out; show _ ≠ w.heap.size + 1; omega))), rfl, HR.out, hY, hYx⟩
      · obtain rfl : jj = X.size := by omega
        have cj : ¬ (X.size : Int) < X.size := by omega
        have HR := HGD (fun y hy => hn.out y (by rw [← HLA.out]; exact hy))
        clear HGD HBC hn
        gi_wp2
        exact ⟨Below.heap_setCell _ _ _ _ (by have := HZ.out; show _ ≠ w.heap.size + 1; omega), Below.heap_setCell _ _ _ _ (by have := HZ.out; show _ ≠ w.heap.size + 1; omega), ⟨HS.out, HI3.out, HR⟩, HB2.out⟩
end
section
open Go.RowKit
set_option linter.unusedVariables false
set_option linter.unusedSimpArgs false
set_option linter.unusedSectionVars false
set_option maxRecDepth 100000
attribute [local go_sem] Oper.semAt_some

set_option maxHeartbeats 2000000 in
theorem lTouch_any (a b : ByteArray) (w : World) (ha : a.size ≤ 1000000) (hb : b.size ≤ 1000000) : Calls Tryd.prog 6 #[.string a, .string b] w fun e w' => e = .returned (.tuple #[.bool (touchV a b), .int .i64 (touchE a b)]) ∧ Ext w w' := by
  have hM := fun s W hs => lname_any s W hs
  have hma := fun W => hM a W ha
  have hmb := fun W => hM b W hb
  by_cases ha2 : nameN a = true <;> by_cases hb2 : nameN b = true
  · have hC := fun W => ltouch_any a b W (by omega) (by omega)
    rw [ha2] at hma
    rw [hb2] at hmb
    have HV := Lib.hid (show touchV a b = touchN a b from by unfold touchV; rw [ha2, hb2]; rfl)
    have HE := Lib.hid (show touchE a b = 0 from by unfold touchE; rw [ha2, hb2]; rfl)
    clear hM ha2 hb2
    generalize touchN a b = z at *
    go_enter Tryd.func6, Tryd.ntmps6
    go_wp2_with (fail)
    refine (hma _).mono ?_
    rintro e w1 ⟨rfl, x1⟩
    dsimp only
    go_wp2_with (fail)
    refine (hmb _).mono ?_
    rintro e w2 ⟨rfl, x2⟩
    dsimp only
    go_wp2_with (go_at_call 18; refine (hC _).mono ?_; rintro e w3 ⟨rfl, x3⟩)
    go_ret2
    exact ⟨by rw [HV.out, HE.out]; rfl, (x1.trans x2).trans x3⟩
  · have hb3 : nameN b = false := by simpa using hb2
    rw [ha2] at hma
    rw [hb3] at hmb
    have HV := Lib.hid (show touchV a b = false from by unfold touchV; rw [ha2, hb3]; rfl)
    have HE := Lib.hid (show touchE a b = 1 from by unfold touchE; rw [ha2, hb3]; rfl)
    clear hM ha2 hb2 hb3
    go_enter Tryd.func6, Tryd.ntmps6
    go_wp2_with (fail)
    refine (hma _).mono ?_
    rintro e w1 ⟨rfl, x1⟩
    dsimp only
    go_wp2_with (fail)
    refine (hmb _).mono ?_
    rintro e w2 ⟨rfl, x2⟩
    dsimp only
    go_wp2_with (fail)
    go_ret2
    exact ⟨by rw [HV.out, HE.out]; rfl, x1.trans x2⟩
  all_goals
    have ha3 : nameN a = false := by simpa using ha2
    rw [ha3] at hma
    have HV := Lib.hid (show touchV a b = false from by unfold touchV; rw [ha3]; rfl)
    have HE := Lib.hid (show touchE a b = 1 from by unfold touchE; rw [ha3]; rfl)
    clear hM ha2 hb2 ha3
    go_enter Tryd.func6, Tryd.ntmps6
    go_wp2_with (fail)
    refine (hma _).mono ?_
    rintro e w1 ⟨rfl, x1⟩
    dsimp only
    go_wp2_with (fail)
    go_ret2
    exact ⟨by rw [HV.out, HE.out]; rfl, x1⟩
end
section
open Go.RowKit Go.Maps Go.MapKept Go.WideElems Go.ChangeMaps
set_option linter.unusedVariables false
set_option linter.unusedSimpArgs false
set_option linter.unusedSectionVars false
set_option maxRecDepth 20000

theorem laidOutL : laidOutB Tryd.prog = true := by kernel_rfl
/-- a place: a unit and a name -/
abbrev Plc := Int × ByteArray
def Plc.v (x : Plc) : Value := .agg #[.int .i64 x.1, .string x.2]
def Plc.cells (x : Plc) : List Value := [.int .i64 x.1, .string x.2]
/-- a place that the program reads as a key -/
def OkP (x : Plc) : Prop := (-9223372036854775808 ≤ x.1 ∧ x.1 ≤ 9223372036854775807) ∧ x.2.size ≤ 1000000
theorem plLaw : WideMaps.KeyLaw Tryd.prog 72 := deep_law_laid laidOutL (m := 2) (by omega) (by decide +kernel) (by kernel_rfl) (by kernel_rfl)
theorem plKeyed : Keyed Tryd.prog 72 := Keyed.of_law plLaw
def mkP (x : Plc) : Lit := .string (keyBytes [.int .i64 x.1, .string x.2.data.toList])
theorem mkP_key {x : Plc} (h : OkP x) : keyOf Tryd.prog 72 x.v = some (mkP x) := by
  obtain ⟨a, b⟩ := x
  have w0 : (Lit.int .i64 a).wf = true := by
    obtain ⟨⟨h1, h2⟩, _⟩ := h
    simp at h1 h2
    simp [Lit.wf, IntKind.min, IntKind.max, IntKind.signed, IntKind.bits]
    omega
  have w1 : b.size ≤ maxLen := by
    have := h.2
    simp at this
    unfold maxLen
    omega
  have hu := Tryd.underlying72
  have hi := Tryd.underlying3
  have hs := Tryd.underlying9
  have hc : Tryd.prog.cellsOf 72 = 2 := by kernel_rfl
  have hc1 : Tryd.prog.cellsOf 3 = 1 := by kernel_rfl
  have hc2 : Tryd.prog.cellsOf 9 = 1 := by kernel_rfl
  have hkt : Tryd.prog.keyType 72 = true := by kernel_rfl
  obtain ⟨m, hm⟩ : ∃ m, Tryd.prog.types.size = m + 1 := ⟨Tryd.prog.types.size - 1, (Nat.succ_pred_eq_of_pos (by decide +kernel)).symm⟩
  have h1 : Tryd.prog.keyLits (m + 1) 3 [.int .i64 a] = some [.int .i64 a] := by
    unfold Program.keyLits
    rw [hi]
    simp [w0]
  have h2 : Tryd.prog.keyLits (m + 1) 9 [.string b] = some [.string b.data.toList] := by
    unfold Program.keyLits
    rw [hs]
    simp [w1]
  have hf : Value.formed Tryd.prog 72 (.agg #[.int .i64 a, .string b]) = true := by
    unfold Value.formed
    rw [hu]
    simp [hc]
  have hl : Tryd.prog.keyLits (m + 1 + 1) 72 [.int .i64 a, .string b] = some [.int .i64 a, .string b.data.toList] := by
    unfold Program.keyLits
    rw [hu]
    simp [hc, hc1, hc2, h1, h2]
  unfold keyOf
  rw [hu]
  simp only
  rw [if_pos (by rw [hkt]; simpa [Plc.v] using hf), hm]
  have : (Plc.v (a, b)).cells.toList = [.int .i64 a, .string b] := rfl
  rw [this, hl]
  rfl
theorem mkP_inj {x y : Plc} (hx : OkP x) (hy : OkP y) (e : mkP x = mkP y) : x = y := by
  have := plKeyed.inj (mkP_key hx) (by rw [e]; exact mkP_key hy)
  obtain ⟨a, b⟩ := x
  obtain ⟨a', b'⟩ := y
  simpa [Plc.v] using this
theorem mkP_lit {x : Plc} (h : OkP x) : WideAt.IsKeyLit (mkP x) := plKeyed.key (mkP_key h)
/-- whatever reads as a place's key is a place -/
theorem mkP_inv {key : Value} {kl : Lit} (h : keyOf Tryd.prog 72 key = some kl) : ∃ x : Plc, key = x.v := by
  have hu := Tryd.underlying72
  have hi := Tryd.underlying3
  have hs := Tryd.underlying9
  have hc : Tryd.prog.cellsOf 72 = 2 := by kernel_rfl
  have hc1 : Tryd.prog.cellsOf 3 = 1 := by kernel_rfl
  have hc2 : Tryd.prog.cellsOf 9 = 1 := by kernel_rfl
  obtain ⟨m, hm⟩ : ∃ m, Tryd.prog.types.size = m + 1 := ⟨Tryd.prog.types.size - 1, (Nat.succ_pred_eq_of_pos (by decide +kernel)).symm⟩
  unfold keyOf at h
  rw [hu] at h
  simp only at h
  split at h
  · next hcond =>
    rw [Bool.and_eq_true] at hcond
    have hf := hcond.2
    unfold Value.formed at hf
    rw [hu] at hf
    cases key with
    | agg cs =>
      simp [hc] at hf
      rw [hm] at h
      have hcl : (Value.agg cs).cells.toList = cs.toList := rfl
      rw [hcl] at h
      obtain ⟨a, z, hcs⟩ : ∃ a z, cs.toList = [a, z] := by
        have hl : cs.toList.length = 2 := by simpa using hf
        match hq : cs.toList, hl with
        | [a, z], _ => exact ⟨a, z, rfl⟩
      rw [hcs] at h
      unfold Program.keyLits at h
      rw [hu] at h
      simp [hc, hc1, hc2] at h
      have h1 : ∃ n, a = .int .i64 n := by
        cases hk : Tryd.prog.keyLits (m + 1) 3 [a] with
        | none => rw [hk] at h; cases h
        | some ls =>
          unfold Program.keyLits at hk
          rw [hi] at hk
          cases a with
          | int q n =>
            simp at hk
            exact ⟨n, by rw [hk.1.1]⟩
          | _ => simp at hk
      have h2 : ∃ s, z = .string s := by
        cases hk : Tryd.prog.keyLits (m + 1) 9 [z] with
        | none =>
          rw [hk] at h
          cases hq : Tryd.prog.keyLits (m + 1) 3 [a] <;> rw [hq] at h <;> cases h
        | some ls =>
          unfold Program.keyLits at hk
          rw [hs] at hk
          cases z with
          | string s => exact ⟨s, rfl⟩
          | _ => simp at hk
      obtain ⟨n, rfl⟩ := h1
      obtain ⟨s, rfl⟩ := h2
      refine ⟨(n, s), ?_⟩
      show Value.agg cs = .agg #[.int .i64 n, .string s]
      rw [← Array.toArray_toList (xs := cs), hcs]
    | _ => simp at hf
  · cases h
end
section
open Go.RowKit Go.Maps Go.MapKept Go.WideElems Go.ChangeMaps
set_option linter.unusedVariables false
set_option linter.unusedSimpArgs false
set_option linter.unusedSectionVars false
set_option maxRecDepth 20000

/-- a pair laid under its key -/
def putA {β : Type} (l : List (Plc × β)) (k : Plc) (v : β) : List (Plc × β) := if (l.any fun e => decide (e.1 = k)) = true then l.map fun e => if e.1 = k then (k, v) else e else l ++ [(k, v)]
def delA {β : Type} (l : List (Plc × β)) (k : Plc) : List (Plc × β) := l.filter fun e => !decide (e.1 = k)
def getA {β : Type} (l : List (Plc × β)) (k : Plc) : Option β := (l.find? fun e => decide (e.1 = k)).map (·.2)
theorem putA_keys {β : Type} {l : List (Plc × β)} {k : Plc} {v : β} : (putA l k v).map (·.1) = if (l.any fun e => decide (e.1 = k)) = true then l.map (·.1) else l.map (·.1) ++ [k] := by
  unfold putA
  split
  · rw [List.map_map]
    apply List.map_congr_left
    intro e he
    show (if e.1 = k then (k, v) else e).1 = e.1
    split
    · next h => exact h.symm
    · rfl
  · simp
theorem mem_putA {β : Type} {l : List (Plc × β)} {k : Plc} {v : β} {x : Plc × β} : x ∈ putA l k v ↔ x = (k, v) ∨ (x ∈ l ∧ x.1 ≠ k) := by
  unfold putA
  split
  · next h =>
    rw [List.mem_map]
    constructor
    · rintro ⟨e, he, rfl⟩
      by_cases hk : e.1 = k
      · rw [if_pos hk]; exact .inl rfl
      · rw [if_neg hk]; exact .inr ⟨he, hk⟩
    · rintro (rfl | ⟨h1, h2⟩)
      · rw [List.any_eq_true] at h
        obtain ⟨e, he, hk⟩ := h
        exact ⟨e, he, by rw [if_pos (by simpa using hk)]⟩
      · exact ⟨x, h1, by rw [if_neg h2]⟩
  · next h =>
    rw [List.mem_append, List.mem_singleton]
    constructor
    · rintro (h1 | h1)
      · exact .inr ⟨h1, fun e => h (List.any_eq_true.2 ⟨x, h1, by simpa using e⟩)⟩
      · exact .inl h1
    · rintro (h1 | ⟨h1, _⟩)
      · exact .inr h1
      · exact .inl h1
theorem mem_delA {β : Type} {l : List (Plc × β)} {k : Plc} {x : Plc × β} : x ∈ delA l k ↔ x ∈ l ∧ x.1 ≠ k := by
  unfold delA
  rw [List.mem_filter]
  simp
theorem any_key {β : Type} {l : List (Plc × β)} {k : Plc} : (l.any fun e => decide (e.1 = k)) = true ↔ k ∈ l.map (·.1) := by
  rw [List.any_eq_true, List.mem_map]
  constructor
  · rintro ⟨e, he, h⟩; exact ⟨e, he, by simpa using h⟩
  · rintro ⟨e, he, h⟩; exact ⟨e, he, by simpa using h⟩
theorem putA_nodup {β : Type} {l : List (Plc × β)} {k : Plc} {v : β} (h : (l.map (·.1)).Nodup) : ((putA l k v).map (·.1)).Nodup := by
  rw [putA_keys]
  split
  · exact h
  · next hn =>
    rw [any_key] at hn
    exact List.nodup_append.2 ⟨h, by simp, fun a ha b hb e => by
      rw [List.mem_singleton] at hb
      subst hb e
      exact hn ha⟩
theorem getA_some {β : Type} {l : List (Plc × β)} (h : (l.map (·.1)).Nodup) {k : Plc} {v : β} : getA l k = some v ↔ (k, v) ∈ l := by
  unfold getA
  induction l with
  | nil => simp
  | cons e r ih =>
    rw [List.map_cons, List.nodup_cons] at h
    rw [List.find?_cons]
    by_cases hk : e.1 = k
    · rw [decide_eq_true hk]
      simp only [Option.map_some, Option.some.injEq, List.mem_cons]
      constructor
      · rintro rfl; left; rw [← hk]
      · rintro (h1 | h1)
        · rw [← h1]
        · exact absurd (List.mem_map.2 ⟨_, h1, hk.symm⟩) h.1
    · rw [decide_eq_false hk]
      simp only
      rw [ih h.2, List.mem_cons]
      constructor
      · exact .inr
      · rintro (h1 | h1)
        · exact absurd (by rw [← h1]) hk
        · exact h1
theorem getA_none {β : Type} {l : List (Plc × β)} {k : Plc} : getA l k = none ↔ k ∉ l.map (·.1) := by
  unfold getA
  rw [Option.map_eq_none_iff, List.find?_eq_none, List.mem_map]
  constructor
  · rintro h ⟨e, he, hk⟩; exact h e he (by simpa using hk)
  · intro h e he hk; exact h ⟨e, he, by simpa using hk⟩

/-- block b is a map in which the places of l lie with what l gives them -/
def MapA {β : Type} (dv : β → DataW Unit) (e : TypeId) (w : World) (b : Nat) (l : List (Plc × β)) : Prop :=
  ∃ (D : DataW Unit), w.ownsMap Tryd.prog 72 (plainElem (H := Unit) Tryd.prog e) b l.length D ∧ (l.map (·.1)).Nodup ∧ (∀ x ∈ l, OkP x.1) ∧ (∀ kl, has D kl = true ↔ ∃ x ∈ l, mkP x.1 = kl) ∧ (∀ x ∈ l, ∀ z, D.atKey (mkP x.1) z = dv x.2) ∧ size D = l.length
section
variable {β : Type} {dv : β → DataW Unit} {e : TypeId} {w : World} {b : Nat} {l : List (Plc × β)}
theorem MapA.lt (h : MapA dv e w b l) : b < w.heap.size := by obtain ⟨D, h, _⟩ := h; exact h.lt
theorem MapA.same {w' : World} (h : MapA dv e w b l) (he : w'.heap[b]? = w.heap[b]?) : MapA dv e w' b l := by
  obtain ⟨D, ⟨es, clock, hb, r'⟩, r⟩ := h
  exact ⟨D, ⟨es, clock, he.trans hb, r'⟩, r⟩
theorem MapA.ext {w' : World} (h : MapA dv e w b l) (he : Ext w w') : MapA dv e w' b l := h.same (he.block h.lt)
theorem MapA.upd {w' : World} {g : Nat} (h : MapA dv e w b l) (hu : Upd w g w') (hne : b ≠ g) : MapA dv e w' b l := by
  have hb := h.lt
  obtain ⟨D, ⟨es, clock, hb, r'⟩, r⟩ := h
  exact ⟨D, ⟨es, clock, hu.heap hb hne, r'⟩, r⟩
theorem MapA.made (w : World) : MapA dv e (w.alloc (.map #[] 0)) w.heap.size [] :=
  ⟨.map [], World.ownsMap_made _ _ _ _, by simp, by simp, fun kl => by simp [has], by simp, rfl⟩
theorem MapA.perm {l' : List (Plc × β)} (h : MapA dv e w b l) (hp : l.Perm l') : MapA dv e w b l' := by
  obtain ⟨D, h1, h2, h3, h4, h5, h6⟩ := h
  refine ⟨D, by rw [← hp.length_eq]; exact h1, (hp.map _).nodup_iff.1 h2, fun x hx => h3 x (hp.mem_iff.2 hx), fun kl => ?_, fun x hx => h5 x (hp.mem_iff.2 hx), by rw [← hp.length_eq]; exact h6⟩
  rw [h4]
  constructor
  · rintro ⟨x, hx, e⟩; exact ⟨x, hp.mem_iff.1 hx, e⟩
  · rintro ⟨x, hx, e⟩; exact ⟨x, hp.mem_iff.2 hx, e⟩
theorem MapA.has_iff {D : DataW Unit} (h3 : ∀ x ∈ l, OkP x.1) (h4 : ∀ kl, has D kl = true ↔ ∃ x ∈ l, mkP x.1 = kl) {k : Plc} (hk : OkP k) : has D (mkP k) = true ↔ k ∈ l.map (·.1) := by
  rw [h4, List.mem_map]
  constructor
  · rintro ⟨x, hx, e⟩; exact ⟨x, hx, mkP_inj (h3 x hx) hk e⟩
  · rintro ⟨x, hx, e⟩; exact ⟨x, hx, by rw [e]⟩
theorem MapA.len {t : TypeId} (h : MapA dv e w b l) (ht : Tryd.prog.underlying t = some (.map 72 e)) (ty : TypeId) : (Builtin.len_ #[t] ty #[.map (some b)]).run Tryd.prog w = .ok (.int .i64 l.length) w := by
  obtain ⟨D, hown, _, _, _, _, hs⟩ := h
  rw [hown.len ht ty, hs]
theorem owns_tight {R : Value → Option (DataW Unit × List MemPlace)} {k : TypeId} {n : Nat} {D : DataW Unit} (h : w.ownsMap Tryd.prog k R b n D) : w.ownsMap Tryd.prog k R b (size D) D := by
  obtain ⟨es, clock, hb, F, hs, rfl⟩ := h
  exact ⟨es, clock, hb, F, by simp [size, length_sorted], rfl⟩
theorem MapA.store {t : TypeId} (h : MapA dv e w b l) (ht : Tryd.prog.underlying t = some (.map 72 e)) (hn : l.length < 1000000) {k : Plc} (hk : OkP k) {val : Value} {v : β} (hv : plainElem (H := Unit) Tryd.prog e val = some (dv v, [])) :
    ∃ w', (Instr.mapUpdate t (.map (some b)) k.v val).run Tryd.prog w = .ok () w' ∧ MapA dv e w' b (putA l k v) ∧ Upd w b w' := by
  obtain ⟨D, hown, hd, h3, h4, h5, h6⟩ := h
  have hT := hown.tidy plKeyed
  have hkey := mkP_key hk
  have hlit := mkP_lit hk
  have hhas := MapA.has_iff h3 h4 hk
  obtain ⟨w', hrun, hown', hg⟩ := hown.update plKeyed ht (by unfold maxLen; omega) hkey hv
  have hsz : size (D.put (mkP k) (dv v)) = (putA l k v).length := by
    rw [size_put hT, h6]
    unfold putA
    by_cases hm : k ∈ l.map (·.1)
    · rw [if_pos (hhas.2 hm), if_pos (any_key.2 hm), List.length_map]
    · rw [if_neg (fun h => hm (hhas.1 h)), if_neg (fun h => hm (any_key.1 h))]
      simp
  have ht' := owns_tight hown'
  rw [hsz] at ht'
  refine ⟨w', hrun, ⟨_, ht', putA_nodup hd, fun x hx => ?_, fun kl => ?_, fun x hx z => ?_, hsz⟩, hg⟩
  · rcases mem_putA.1 hx with rfl | ⟨h1, _⟩
    · exact hk
    · exact h3 x h1
  · by_cases hkl : kl = mkP k
    · subst hkl
      rw [has_put_same hT.isMap hlit]
      exact ⟨fun _ => ⟨(k, v), mem_putA.2 (.inl rfl), rfl⟩, fun _ => rfl⟩
    · rw [has_put_other hkl, h4]
      constructor
      · rintro ⟨x, hx, e⟩
        exact ⟨x, mem_putA.2 (.inr ⟨hx, fun e' => hkl (by rw [← e, e'])⟩), e⟩
      · rintro ⟨x, hx, e⟩
        rcases mem_putA.1 hx with rfl | ⟨h1, _⟩
        · exact absurd e.symm hkl
        · exact ⟨x, h1, e⟩
  · rcases mem_putA.1 hx with rfl | ⟨h1, h2⟩
    · exact atKey_put_same hT.isMap hlit _ _
    · rw [atKey_put_other (fun e => h2 (mkP_inj (h3 x h1) hk e))]
      exact h5 x h1 z
theorem delA_len {k : Plc} (hd : (l.map (·.1)).Nodup) : (delA l k).length + (if (l.any fun e => decide (e.1 = k)) = true then 1 else 0) = l.length := by
  induction l with
  | nil => simp [delA]
  | cons x r ih =>
    rw [List.map_cons, List.nodup_cons] at hd
    have ih := ih hd.2
    unfold delA at ih ⊢
    rw [List.filter_cons]
    by_cases hx : x.1 = k
    · have hn : k ∉ r.map (·.1) := by rw [← hx]; exact hd.1
      rw [if_neg (fun h => hn (any_key.1 h))] at ih
      rw [if_neg (by simp [hx]), if_pos (by simp [hx])]
      simp only [List.length_cons]
      omega
    · rw [if_pos (by simp [hx])]
      rw [List.any_cons, decide_eq_false hx, Bool.false_or]
      simp only [List.length_cons]
      omega
theorem MapA.drop {t : TypeId} (h : MapA dv e w b l) (ht : Tryd.prog.underlying t = some (.map 72 e)) {k : Plc} (hk : OkP k) (ty : TypeId) :
    ∃ w', (Builtin.delete_ #[t, 72] ty #[.map (some b), k.v]).run Tryd.prog w = .ok (.tuple #[]) w' ∧ MapA dv e w' b (delA l k) ∧ Upd w b w' := by
  obtain ⟨D, hown, hd, h3, h4, h5, h6⟩ := h
  have hT := hown.tidy plKeyed
  have hhas := MapA.has_iff h3 h4 hk
  obtain ⟨w', hrun, hown', hg⟩ := hown.drop plKeyed ht (mkP_key hk) ty
  have hsz : size (D.del (mkP k)) = (delA l k).length := by
    have h7 := size_del (k := mkP k) hT
    have h8 := delA_len (k := k) hd
    rw [h6] at h7
    by_cases hm : k ∈ l.map (·.1)
    · rw [if_pos (any_key.2 hm)] at h8
      rw [if_pos (hhas.2 hm)] at h7
      omega
    · rw [if_neg (fun h => hm (any_key.1 h))] at h8
      rw [if_neg (fun h => hm (hhas.1 h))] at h7
      omega
  have ht' := owns_tight hown'
  rw [hsz] at ht'
  refine ⟨w', hrun, ⟨_, ht', List.Nodup.sublist (List.Sublist.map _ List.filter_sublist) hd, fun x hx => h3 x (mem_delA.1 hx).1, fun kl => ?_, fun x hx z => ?_, hsz⟩, hg.grown⟩
  · by_cases hkl : kl = mkP k
    · subst hkl
      rw [has_del_same]
      constructor
      · intro h; cases h
      · rintro ⟨x, hx, e⟩
        exact absurd (mkP_inj (h3 x (mem_delA.1 hx).1) hk e) (mem_delA.1 hx).2
    · rw [has_del_other hkl, h4]
      constructor
      · rintro ⟨x, hx, e⟩
        exact ⟨x, mem_delA.2 ⟨hx, fun e' => hkl (by rw [← e, e'])⟩, e⟩
      · rintro ⟨x, hx, e⟩
        exact ⟨x, (mem_delA.1 hx).1, e⟩
  · obtain ⟨h1, h2⟩ := mem_delA.1 hx
    rw [atKey_del_other (fun e => h2 (mkP_inj (h3 x h1) hk e))]
    exact h5 x h1 z
end
end
end Go.Proofs.YtaciedooeeklpaaDoor
