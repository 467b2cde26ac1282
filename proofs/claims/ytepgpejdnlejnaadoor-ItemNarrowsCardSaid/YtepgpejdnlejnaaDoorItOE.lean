/- Rows are compared: Same of both. -/
import Derived.Test.YtepgpejdnlejnaaDoorItOD
import Derived.Laws.StructEq
import Derived.Laws.Tables
import Derived.Laws.Cover2
import Derived.KernelRfl
namespace Go.Proofs.YtepgpejdnlejnaaDoor
open Go.RowKit
set_option linter.unusedVariables false
set_option linter.unusedSimpArgs false
set_option linter.unusedSectionVars false
set_option maxRecDepth 20000
attribute [local go_sem] Oper.semAt_some

theorem text_eq {s t : ByteArray} : s.toList = t.toList ↔ s = t := by
  rw [Lib.toList_data, Lib.toList_data]
  exact ⟨fun h => ByteArray.ext (Array.ext' h), fun h => by rw [h]⟩
theorem eq_vl (x y : Vl) (w : World) : (Op.equalIn 10000 29 (.agg #[.int .i64 x.1, .int .i64 x.2.1, .string x.2.2]) (.agg #[.int .i64 y.1, .int .i64 y.2.1, .string y.2.2])).run Tryd.prog w = .ok (decide (cmpF x y = 0)) w := by
  have u3 := Tryd.underlying3
  have a3 := Tryd.isAgg3
  have z3 := Tryd.sizeOf3
  have u9 := Tryd.underlying9
  have a9 := Tryd.isAgg9
  have z9 := Tryd.sizeOf9
  have hS : Tryd.prog.underlying 29 = some (.struct (Tryd.prog.fieldsOf 29)) := by kernel_rfl
  rw [show (10000 : Nat) = 9999 + 1 from rfl, run_equalIn_agg w 9999 29 _ _ hS (by kernel_rfl)]
  simp only [Program.fieldsOf, Tryd.underlying29]
  go_simp
  obtain ⟨a, n, s⟩ := x
  obtain ⟨b, m, t⟩ := y
  rw [show decide (cmpF (a, n, s) (b, m, t) = 0) = decide ((a, n, s) = (b, m, t)) from decide_eq_decide.2 (ord_cmp.eq0 _ _)]
  simp only [Prod.mk.injEq]
  by_cases h1 : a = b <;> by_cases h2 : n = m <;> by_cases h3 : s = t <;> simp [h1, h2, h3, text_eq]
set_option maxHeartbeats 4000000 in
theorem equal_any (P Q : Option Addr) (cap cap2 : Nat) (l m : List Vl) (w : World) (h : SlV w P cap l) (h2 : SlV w Q cap2 m) :
    Calls Tryd.prog 70 #[.slice P l.length cap, .slice Q m.length cap2] w fun e w' => e = .returned (.bool (decide (crF l m = 0))) ∧ Ext w w' := by
  have hlen := h.len
  have hlen2 := h2.len
  by_cases hl : l.length = m.length
  · rw [← hl]
    have HL := Lib.hid hl
    clear hl
    go_enter Tryd.func70, Tryd.ntmps70
    go_wp2
    go_loopw [13, 5] (fun i _ wr => ∃ k : Nat, k ≤ l.length ∧ i = .int .i64 k ∧ (∀ j, j < k → cmpF (nthV l j) (nthV m j) = 0) ∧ Ext w wr) (fun i _ _ => l.length - (intOf i).toNat)
    case atStart => exact ⟨0, by omega, rfl, by intro j hj; omega, Ext.refl w⟩
    case round =>
      obtain ⟨k, hk, rfl, hall, hx⟩ := hrel
      by_cases hlt : k < l.length
      · have c1 : (k : Int) < l.length := by omega
        have d1 : IntKind.i64.wrap ((k : Int) + 1) = (k : Int) + 1 := IntWalk.i64_in _ ⟨by omega, by omega⟩
        obtain ⟨b, off, hP, p0, p1, p2⟩ := h.valAt k hlt
        obtain ⟨b2, off2, hQ, q0, q1, q2⟩ := h2.valAt k (by have := HL.out; omega)
        subst hP
        subst hQ
        have p0 := hx.cell p0
        have p1 := hx.cell p1
        have p2 := hx.cell p2
        have q0 := hx.cell q0
        have q1 := hx.cell q1
        have q2 := hx.cell q2
        have hG := fun (op : BinOp) (u v : Operand) (xs ys : Array Value) (W : World) => run_eqGuard_agg (P := Tryd.prog) W op 29 u v xs ys (by kernel_rfl)
        have hE := fun W => eq_vl (nthV l k) (nthV m k) W
        by_cases he : cmpF (nthV l k) (nthV m k) = 0
        · have Hy : Hid (∀ j, j < k + 1 → cmpF (nthV l j) (nthV m j) = 0) := Lib.hid (fun j hj => by
            by_cases hjk : j = k
            · subst hjk; exact he
            · exact hall j (by omega))
          simp only [he, decide_true] at hE
          generalize nthV l k = x at *
          generalize nthV m k = y at *
          clear hall he
          go_wp2
          go_quiet (fail)
          go_wp2
          go_roundw
          case rel => exact ⟨k + 1, by omega, by go_num, Hy.out, hx.drewN _⟩
          case measure => simp [intOf]; omega
        · have Hn := Lib.hid (show crF l m ≠ 0 from by rw [crF_at l m k hlt (by have := HL.out; omega) hall he]; exact he)
          rw [decide_eq_false he] at hE
          generalize nthV l k = x at *
          generalize nthV m k = y at *
          clear hall he
          go_wp2
          go_quiet (fail)
          go_wp2
          go_ret
          exact ⟨by rw [decide_eq_false Hn.out]; rfl, hx.drewN _⟩
      · obtain rfl : k = l.length := by omega
        have Hn := Lib.hid (show crF l m = 0 from by rw [crF_end l m l.length (Nat.le_refl _) (by have := HL.out; omega) (.inl rfl) hall, HL.out]; exact lessF_refl _)
        clear hall
        go_wp2
        go_ret
        exact ⟨by rw [decide_eq_true Hn.out]; rfl, hx⟩
  · have Hn := Lib.hid (show crF l m ≠ 0 from fun e => hl (by rw [(ord_rows.eq0 l m).1 e]))
    have hl1 : ((l.length : Int) == m.length) = false := by simp; omega
    have hl2 : ((l.length : Int) != m.length) = true := by simp; omega
    clear hl
    go_enter Tryd.func70, Tryd.ntmps70
    go_wp2
    go_ret
    exact ⟨by rw [decide_eq_false Hn.out]; rfl, Ext.refl w⟩
theorem same_any (P Q : Option Addr) (cap cap2 : Nat) (l m : List Vl) (w : World) (h : SlV w P cap l) (h2 : SlV w Q cap2 m) :
    Calls Tryd.prog 28 #[.slice P l.length cap, .slice Q m.length cap2] w fun e w' => e = .returned (.bool (decide (crF l m = 0))) ∧ Ext w w' := by
  have hC := equal_any P Q cap cap2 l m w h h2
  generalize decide (crF l m = 0) = z at *
  go_enter Tryd.func28, Tryd.ntmps28
  go_wp2_with (go_at_call 70; refine hC.mono ?_; rintro e w1 ⟨rfl, hx1⟩)
  go_ret
  exact ⟨rfl, hx1⟩
theorem rsame_any (P Q : Option Addr) (cap cap2 : Nat) (l m : List Vl) (w : World) (h : SlV w P cap l) (h2 : SlV w Q cap2 m) (o1 : ∀ x ∈ l, x.2.2.size ≤ 140737488355328) (o2 : ∀ x ∈ m, x.2.2.size ≤ 140737488355328) :
    Calls Tryd.prog 29 #[.slice P l.length cap, .slice Q m.length cap2] w fun e w' => e = .returned (.bool (decide (crF l m = 0))) ∧ Ext w w' := by
  have hC := rcmprows_any P Q cap cap2 l m w h h2 o1 o2
  generalize crF l m = z at *
  go_enter Tryd.func29, Tryd.ntmps29
  go_wp2_with (go_at_call 27; refine hC.mono ?_; rintro e w1 ⟨rfl, hx1⟩)
  go_ret
  exact ⟨by first | rfl | (simp; done) | (congr 1; simp; done) | trace_state, hx1⟩
end Go.Proofs.YtepgpejdnlejnaaDoor
