/- Rings: slices.Concat of two lists of links. -/
import Derived.Test.YthmcdlieglollaaChM1
import Derived.Lib.AppendZeros
namespace Go.Proofs.Ythmcdlieglollaa
open Go.RowKit Go.Sort Go.Maps
set_option linter.unusedVariables false
set_option linter.unusedSimpArgs false
set_option linter.unusedSectionVars false
set_option maxRecDepth 20000
attribute [local go_sem] Oper.semAt_some

/-- room for n links -/
theorem grow_any (n : Nat) (w : World) (h0 : 0 < n) (hn : n ≤ 10000) :
    Calls Try.prog 84 #[.slice none 0 0, .int .i64 n] w fun e w' => (∃ v, e = .returned v ∧ OwnL w' w.heap.size v []) ∧ Ext w w' := by
  obtain ⟨i, z, hi, hz, hs, hb, hzc⟩ := elemL.info
  have hap := Lib.run_append_nil_zeros (P := Try.prog) w 25 3 25 31 i z .i64 .i64 Try.underlying25 Try.underlying3 hi hz n h0 (by rw [hs]; omega) (by omega) (by rw [hb]; omega)
  have hge := grownCap_ge w n 0 31
  have hlm := grownCap_le_maxLen w n 0 31 (by unfold maxLen; omega)
  unfold maxLen at hlm
  generalize z.cells = zc at *
  generalize grownCap w n 0 31 = gc at *
  have ho : OwnL (w.alloc (.cells (Builtin.zeroCells zc n ++ Builtin.zeroCells zc (gc - n)) 31)).drew w.heap.size (.slice (some ⟨w.heap.size, 0, none⟩) 0 gc) [] := by
    refine ⟨by simp, .inr ⟨w.heap.size, gc, _, rfl, Nat.le_refl _, World.alloc_heap_new w _, by simp, by unfold maxLen; omega, ?_, by simp⟩⟩
    rw [Array.size_append, size_zeroCells, size_zeroCells, hzc, ← Nat.add_mul]
    congr 1
    omega
  have HO := Lib.hid ho
  clear ho
  have hn0 : ((n : Int) == 0) = false := by simp; omega
  clear hi hz hs hb
  go_enter Try.func84, Try.ntmps84
  go_wp2_with (at_builtin; refine Lib.wpList_append_run _ rfl _ _ _ _ rfl _ _ rfl rfl _ _ hap ?_)
  go_ret
  exact ⟨⟨_, rfl, HO.out⟩, ((Ext.refl w).alloc _).drew⟩
set_option maxHeartbeats 2000000 in
/-- both lists, one behind the other -/
theorem concat_any (P Q : Option Addr) (c d b : Nat) (l m : List Lk) (w : World) (h : SlL w P c l) (hP : P = none → c = 0) (h2 : SlL w Q d m) (hQ : Q = none → d = 0) (hl : 0 < l.length) (hl5 : l.length ≤ 1000) (hm5 : m.length ≤ 1000)
    (hb0 : w.cell? ⟨b, 0, none⟩ = some (.slice P l.length c)) (hb1 : w.cell? ⟨b, 1, none⟩ = some (.slice Q m.length d)) :
    Calls Try.prog 71 #[.slice (some ⟨b, 0, none⟩) 2 2] w fun e w' => (∃ v, e = .returned v ∧ OwnL w' w.heap.size v (l ++ m)) ∧ Ext w w' := by
  have HL := Lib.hid (And.intro hl (And.intro hl5 hm5))
  go_enter Try.func71, Try.ntmps71
  go_wp2
  go_loopw [11, 3, 5] (fun i n _ wr => ∃ q : Nat, q ≤ 2 ∧ i = .int .i64 q ∧ n = .int .i64 ((if q = 0 then 0 else if q = 1 then l.length else l.length + m.length : Nat) : Int) ∧ wr = w) (fun i _ _ _ => 2 - (intOf i).toNat)
  case atStart => exact ⟨0, by omega, rfl, rfl, rfl⟩
  case round =>
    obtain ⟨q, hq, rfl, rfl, hwr⟩ := hrel
    obtain rfl := hwr.symm
    match q, hq with
    | 0, _ =>
      simp only [if_pos]
      go_wp2
      go_roundw
      case rel => exact ⟨1, by omega, by go_num, by simp, by trivial⟩
      case measure => simp [intOf]
    | 1, _ =>
      simp only [if_pos]
      go_wp2
      go_roundw
      case rel => exact ⟨2, by omega, by go_num, by simp, by trivial⟩
      case measure => simp [intOf]
    | 2, _ =>
      have c0 : 0 < l.length + m.length := by have := HL.out; omega
      have c1 : l.length + m.length ≤ 10000 := by have := HL.out; omega
      have hG := fun W => grow_any (l.length + m.length) W c0 c1
      simp only [Nat.reduceEqDiff, if_false]
      have cc : ¬ ((l.length + m.length : Nat) : Int) < 0 := by omega
      clear c0 c1
      generalize l.length + m.length = nn at *
      go_wp2_with (go_at_call 84; refine (hG _).mono ?_; rintro e w1 ⟨⟨v1, rfl, ho1⟩, hx1⟩)
      go_loopw [27, 6, 8] (fun i v _ w2 => ∃ q : Nat, q ≤ 2 ∧ i = .int .i64 q ∧ OwnL w2 w.heap.size v (if q = 0 then [] else if q = 1 then l else l ++ m) ∧ Ext w w2) (fun i _ _ _ => 2 - (intOf i).toNat)
      case atStart => exact ⟨0, by omega, rfl, ho1, hx1⟩
      case round =>
        obtain ⟨q, hq, rfl, ho, hx⟩ := hrel
        have hb0' := hx.cell hb0
        have hb1' := hx.cell hb1
        match q, hq with
        | 0, _ =>
          have HO := Lib.hid ho
          simp only [if_pos] at HO
          clear ho
          go_wp2_with (at_builtin; refine wpList_app_G _ elemL rfl _ _ rfl (base := w.heap.size) rfl HO.out (m := l) rfl (h.ext hx) hP ?d1 ?d2 ?d3 ?_)
          case d1 => have := HL.out; simp; omega
          case d2 => have := HL.out; simp; omega
          case d3 => exact hx.size
          intro v3 w3 ho3 hbl
          have hx3 : Ext w w3 := below_ext hx hbl (Nat.le_refl _)
          go_wp2
          go_roundw
          case rel => exact ⟨1, by omega, by go_num, by simpa using ho3, hx3⟩
          case measure => simp [intOf]
        | 1, _ =>
          have HO := Lib.hid ho
          simp only [Nat.reduceEqDiff, if_false, if_pos] at HO
          clear ho
          go_wp2_with (at_builtin; refine wpList_app_G _ elemL rfl _ _ rfl (base := w.heap.size) rfl HO.out (m := m) rfl (h2.ext hx) hQ ?d4 ?d5 ?d6 ?_)
          case d4 => have := HL.out; simp; omega
          case d5 => have := HL.out; simp; omega
          case d6 => exact hx.size
          intro v3 w3 ho3 hbl
          have hx3 : Ext w w3 := below_ext hx hbl (Nat.le_refl _)
          go_wp2
          go_roundw
          case rel => exact ⟨2, by omega, by go_num, by simpa using ho3, hx3⟩
          case measure => simp [intOf]
        | 2, _ =>
          have HO := Lib.hid ho
          simp only [Nat.reduceEqDiff, if_false] at HO
          clear ho
          go_wp2
          go_ret
          exact ⟨⟨_, rfl, HO.out⟩, hx⟩
end Go.Proofs.Ythmcdlieglollaa
