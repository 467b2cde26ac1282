/- ItOE; ItPC0; CaT; CaV; CaW; CaX; Held (merged by group.py) -/
import Derived.Test.YtcbinafokhekmaaDoorQ11
import Derived.Laws.StructEq
import Derived.Laws.Tables
import Derived.Laws.Cover2
import Derived.KernelRfl
import Derived.Test.YtcbinafokhekmaaDoorQ05
import Derived.Deep.RegionHeld3
import Derived.Lib.SliceRun
import Derived.Test.YtcbinafokhekmaaDoorQ10
import Derived.Test.YtcbinafokhekmaaDoorQ03
import Derived.OrdersHeld
namespace Go.Proofs.YtcbinafokhekmaaDoor
section
open Go.RowKit
set_option linter.unusedVariables false
set_option maxRecDepth 20000
set_option linter.unusedSimpArgs false
set_option linter.unusedSectionVars false
set_option maxRecDepth 20000
attribute [local go_sem] Oper.semAt_some

theorem text_eq {s t : ByteArray} : s.toList = t.toList ↔ s = t := by
  rw [Lib.toList_data, Lib.toList_data]
  exact ⟨fun h => ByteArray.ext (Array.ext' h), fun h => by rw [h]⟩
theorem eq_vl (x y : Vl) (w : World) : (Op.equalIn 10000 50 (.agg #[.int .i64 x.1, .int .i64 x.2.1, .string x.2.2]) (.agg #[.int .i64 y.1, .int .i64 y.2.1, .string y.2.2])).run Tryd.prog w = .ok (decide (cmpF x y = 0)) w := by
  have u3 := Tryd.underlying3
  have a3 := Tryd.isAgg3
  have z3 := Tryd.sizeOf3
  have u9 := Tryd.underlying9
  have a9 := Tryd.isAgg9
  have z9 := Tryd.sizeOf9
  have hS : Tryd.prog.underlying 50 = some (.struct (Tryd.prog.fieldsOf 50)) := by kernel_rfl
  rw [show (10000 : Nat) = 9999 + 1 from rfl, run_equalIn_agg w 9999 50 _ _ hS (by kernel_rfl)]
  simp only [Program.fieldsOf, Tryd.underlying50]
  go_simp
  obtain ⟨a, n, s⟩ := x
  obtain ⟨b, m, t⟩ := y
  rw [show decide (cmpF (a, n, s) (b, m, t) = 0) = decide ((a, n, s) = (b, m, t)) from decide_eq_decide.2 (ord_cmp.eq0 _ _)]
  simp only [Prod.mk.injEq]
  by_cases h1 : a = b <;> by_cases h2 : n = m <;> by_cases h3 : s = t <;> simp [h1, h2, h3, text_eq]
set_option maxHeartbeats 4000000 in
theorem equal_any (P Q : Option Addr) (cap cap2 : Nat) (l m : List Vl) (w : World) (h : SlV w P cap l) (h2 : SlV w Q cap2 m) :
    Calls Tryd.prog 56 #[.slice P l.length cap, .slice Q m.length cap2] w fun e w' => e = .returned (.bool (decide (crF l m = 0))) ∧ Ext w w' := by
  have hlen := h.len
  have hlen2 := h2.len
  by_cases hl : l.length = m.length
  · rw [← hl]
    have HL := Lib.hid hl
    clear hl
    go_enter Tryd.func56, Tryd.ntmps56
    go_wp2
    go_loopw [13, 5] (fun i _ wr => ∃ k : Nat, k ≤ l.length ∧ i = .int .i64 k ∧ (∀ j, j < k → cmpF (nthV l j) (nthV m j) = 0) ∧ Ext w wr) (fun i _ _ => l.length - (intOf i).toNat)
    case atStart => exact ⟨0, by omega, rfl, by intro j hj; omega, Ext.refl w⟩
    case round =>
      obtain ⟨k, hk, rfl, hall, hx⟩ := hrel
      by_cases hlt : k < l.length
      · have c1 : (k : Int) < l.length := by omega
        have d1 : IntKind.i64.wrap ((k : Int) + 1) = (k : Int) + 1 := IntWalk.i64_in _ ⟨by omega, by omega⟩
        obtain ⟨b, off, hP, p0, p1, p2⟩ := h.valAt k hlt
        obtain ⟨b2, off2, hQ, q0, q1, q2⟩ := h2.valAt k (by have := HL.out; omega)
        subst hP
        subst hQ
        have p0 := hx.cell p0
        have p1 := hx.cell p1
        have p2 := hx.cell p2
        have q0 := hx.cell q0
        have q1 := hx.cell q1
        have q2 := hx.cell q2
        have hG := fun (op : BinOp) (u v : Operand) (xs ys : Array Value) (W : World) => run_eqGuard_agg (P := Tryd.prog) W op 50 u v xs ys (by kernel_rfl)
        have hE := fun W => eq_vl (nthV l k) (nthV m k) W
        by_cases he : cmpF (nthV l k) (nthV m k) = 0
        · have Hy : Hid (∀ j, j < k + 1 → cmpF (nthV l j) (nthV m j) = 0) := Lib.hid (fun j hj => by
            by_cases hjk : j = k
            · subst hjk; exact he
            · exact hall j (by omega))
          simp only [he, decide_true] at hE
          generalize nthV l k = x at *
          generalize nthV m k = y at *
          clear hall he
          go_wp2
          go_quiet (fail)
          go_wp2
          go_roundw
          case rel => exact ⟨k + 1, by omega, by go_num, Hy.out, hx.drewN _⟩
          case measure => simp [intOf]; omega
        · have Hn := Lib.hid (show crF l m ≠ 0 from by rw [crF_at l m k hlt (by have := HL.out; omega) hall he]; exact he)
          rw [decide_eq_false he] at hE
          generalize nthV l k = x at *
          generalize nthV m k = y at *
          clear hall he
          go_wp2
          go_quiet (fail)
          go_wp2
          go_ret
          exact ⟨by rw [decide_eq_false Hn.out]; rfl, hx.drewN _⟩
      · obtain rfl : k = l.length := by omega
        have Hn := Lib.hid (show crF l m = 0 from by rw [crF_end l m l.length (Nat.le_refl _) (by have := HL.out; omega) (.inl rfl) hall, HL.out]; exact lessF_refl _)
        clear hall
        go_wp2
        go_ret
        exact ⟨by rw [decide_eq_true Hn.out]; rfl, hx⟩
  · have Hn := Lib.hid (show crF l m ≠ 0 from fun e => hl (by rw [(ord_rows.eq0 l m).1 e]))
    have hl1 : ((l.length : Int) == m.length) = false := by simp; omega
    have hl2 : ((l.length : Int) != m.length) = true := by simp; omega
    clear hl
    go_enter Tryd.func56, Tryd.ntmps56
    go_wp2
    go_ret
    exact ⟨by rw [decide_eq_false Hn.out]; rfl, Ext.refl w⟩

theorem rsame_any (P Q : Option Addr) (cap cap2 : Nat) (l m : List Vl) (w : World) (h : SlV w P cap l) (h2 : SlV w Q cap2 m) (o1 : ∀ x ∈ l, x.2.2.size ≤ 140737488355328) (o2 : ∀ x ∈ m, x.2.2.size ≤ 140737488355328) :
    Calls Tryd.prog 51 #[.slice P l.length cap, .slice Q m.length cap2] w fun e w' => e = .returned (.bool (decide (crF l m = 0))) ∧ Ext w w' := by
  have hC := rcmprows_any P Q cap cap2 l m w h h2 o1 o2
  generalize crF l m = z at *
  go_enter Tryd.func51, Tryd.ntmps51
  go_wp2_with (go_at_call 73; refine hC.mono ?_; rintro e w1 ⟨rfl, hx1⟩)
  go_ret
  exact ⟨by first | rfl | (simp; done) | (congr 1; simp; done) | trace_state, hx1⟩
end
section
open Go.RowKit
set_option linter.unusedVariables false
set_option maxRecDepth 20000
set_option linter.unusedSimpArgs false
set_option linter.unusedSectionVars false
set_option maxRecDepth 20000
attribute [local go_sem] Oper.semAt_some

/-- a copy of a list, of the call's own -/
def ResO {α : Type} (cs : α → List Value) (e : TypeId) (k : Nat) (w : World) (base : Nat) (v : Value) (l : List α) : Prop := ∃ P cap, v = .slice P l.length cap ∧ OwnG cs e k w base v l
theorem OwnG.res {α : Type} {cs : α → List Value} {t e : TypeId} {k bytes : Nat} (E : ElemG cs t e k bytes) {w : World} {base : Nat} {v : Value} {l : List α} (h : OwnG cs e k w base v l) (hl : l.length ≤ 9223372036854775807) : ResO cs e k w base v l := by
  obtain ⟨P, cap, e, _⟩ := h.slG E hl
  exact ⟨P, cap, e, h⟩

set_option maxHeartbeats 4000000 in
theorem clonev_any (P : Option Addr) (cap : Nat) (l : List Vl) (w : World) (h : SlG Vl.cells w P cap l) (h2 : l.length ≤ 100000) (h3 : P = none → cap = 0) :
    Calls Tryd.prog 52 #[.slice P l.length cap] w fun e w' => (∃ v, e = .returned v ∧ OwnG Vl.cells 50 3 w' w.heap.size v l) ∧ Ext w w' := by
  have hlen := h.len
  have qT : ∀ (w : World) (a : Option Addr) (n c n' c' : Nat), (binOp .eql 22 (.slice a n c) (.slice none n' c')).run Tryd.prog w = .ok (.bool a.isNone) w := fun w a n c n' c' => Lib.run_eql_slice_nil w _ _ a n c n' c' Tryd.underlying22
  cases P with
  | none =>
    obtain rfl := h3 rfl
    obtain rfl : l = [] := List.length_eq_zero_iff.1 (by have := h.le; omega)
    go_enter Tryd.func52, Tryd.ntmps52
    go_wp2
    go_ret
    exact ⟨⟨_, rfl, OwnG.nil _ _ _ _ _⟩, Ext.refl _⟩
  | some ad =>
    go_enter Tryd.func52, Tryd.ntmps52
    go_wp2_with (at_builtin; refine wpList_app_G _ elemV rfl _ _ rfl (base := w.heap.size) (l := []) rfl (OwnG.lit0 (Nat.le_refl _)) rfl (h.ext ((Ext.refl _).alloc _)) (fun h => by cases h) (by simp; omega) (by simp; omega) (by simp) ?_)
    intro v' w' ho hb
    go_wp2
    go_ret
    exact ⟨⟨_, rfl, ho⟩, below_ext ((Ext.refl _).alloc _) hb (Nat.le_refl _)⟩
end
section
open Go.RowKit
set_option linter.unusedVariables false
set_option maxRecDepth 20000
set_option linter.unusedSimpArgs false
set_option linter.unusedSectionVars false
set_option maxRecDepth 100000
attribute [local go_sem] Oper.semAt_some

theorem eqv_any (P Q : Option Addr) (c d : Nat) (l m : List Vl) (w : World) (h : SlV w P c l) (h2 : SlV w Q d m) :
    Calls Tryd.prog 56 #[.slice P l.length c, .slice Q m.length d] w fun e w' => e = .returned (.bool (decide (l = m))) ∧ Ext w w' := by
  have := equal_any P Q c d l m w h h2
  rwa [show decide (crF l m = 0) = decide (l = m) from by simp only [ord_rows.eq0]] at this
theorem chash_any (s : ByteArray) (w : World) (hs : s.size ≤ 140737488355328) :
    Calls Tryd.prog 9 #[.string s] w fun e w' => e = .returned (.int .u64 (hashF s)) ∧ w = w' := by
  have hH := fun W => hash_any s W hs
  go_enter Tryd.func9, Tryd.ntmps9
  go_wp2_with (go_at_call 24; refine (hH _).mono ?_; rintro e w1 ⟨rfl, rfl⟩)
  go_ret
  exact ⟨rfl, rfl⟩
theorem home_any (P : Option Addr) (c : Nat) (row : List Vl) (h : Nat) (w : World) (hs : SlV w P c row) (h1 : 1 ≤ h) (h2 : h ≤ 100) (ht : Tab w) :
    Calls Tryd.prog 21 #[.slice P row.length c, .int .i64 h] w fun e w' => e = .returned (.int .i64 (homeV row % h : Nat)) ∧ Ext w w' := by
  have hT := text_any P c row w hs ht
  have hH := fun W => chash_any (txB row) W (by have := txB_size row; omega)
  rw [homeV_hash] at hH
  have hle := homeV_le row
  have c1 : (1 : Int) ≤ h := by omega
  have c2 : (h : Int) ≤ 100 := by omega
  change Calls _ _ _ w fun e w' => e = .returned (.string (txB row)) ∧ Ext w w' at hT
  generalize txB row = X at *
  generalize homeV row = v at *
  have c5 : (v : Int) ≤ 18446744073709551615 := by omega
  go_enter Tryd.func21, Tryd.ntmps21
  go_wp2_with (first
    | (go_at_call 26; refine hT.mono ?_; rintro e w2 ⟨rfl, hx2⟩)
    | (go_at_call 9; refine (hH _).mono ?_; rintro e w3 ⟨rfl, rfl⟩))
  go_ret
  exact ⟨by rw [← mod_wrap v h h1 h2]; first | rfl | (simp; done) | (congr 1), hx2⟩
def askB (row : List Vl) (k : Int) : Bool := rowB row && keyB k
theorem asked_any (t : Nat) (P : Option Addr) (c : Nat) (row : List Vl) (k : Int) (w : World) (hs : SlV w P c row) :
    Calls Tryd.prog 35 #[.pointer (some ⟨t, 0, none⟩), .slice P row.length c, .int .i64 k] w fun e w' => e = .returned (.int .i64 (if askB row k then 0 else 1)) ∧ Ext w w' := by
  have hR := row_any P c row w hs
  have hK := fun W => key_any k W
  unfold askB
  cases hr : rowB row <;> rw [hr] at hR <;> cases hk : keyB k <;> rw [hk] at hK
  all_goals
    go_enter Tryd.func35, Tryd.ntmps35
    go_wp2_with (first
      | (go_at_call 20; refine hR.mono ?_; rintro e w1 ⟨rfl, hx1⟩)
      | (go_at_call 27; refine (hK _).mono ?_; rintro e w2 ⟨rfl, rfl⟩))
    go_ret
    exact ⟨rfl, hx1⟩
end
section
open Go.RowKit
set_option linter.unusedVariables false
set_option maxRecDepth 20000
set_option linter.unusedSimpArgs false
set_option linter.unusedSectionVars false
set_option maxRecDepth 100000
attribute [local go_sem] Oper.semAt_some

theorem with1_any (x : HdR) (P : Option Addr) (c : Nat) (row : List Vl) (cb : Nat) (w : World) (hc : w.cell? ⟨cb, 0, none⟩ = some (.slice P row.length c)) (hs : SlV w P c row) (hx : SlV w x.1.1 x.1.2.1 x.1.2.2) :
    Calls Tryd.prog 55 #[.agg #[.slice x.1.1 x.1.2.2.length x.1.2.1, .int .i64 x.2], .pointer (some ⟨cb, 0, none⟩)] w fun e w' => e = .returned (.bool (decide (x.1.2.2 = row))) ∧ Ext w w' := by
  have hx0 := (Ext.refl w).alloc (.cells #[.slice x.1.1 x.1.2.2.length x.1.2.1, .int .i64 x.2] 36)
  have hE := eqv_any x.1.1 P x.1.2.1 c x.1.2.2 row _ (hx.ext hx0) (hs.ext hx0)
  have hc' := hx0.cell hc
  have hb := BoxN.new w 36 #[.slice x.1.1 x.1.2.2.length x.1.2.1, .int .i64 x.2]
  have b0 := hb.cell (i := 0) rfl
  obtain ⟨⟨A, B, L⟩, K⟩ := x
  dsimp only at *
  generalize decide (L = row) = z at *
  go_enter Tryd.func55, Tryd.ntmps55
  go_wp2_with (fail)
  generalize w.alloc (.cells #[.slice A L.length B, .int .i64 K] 36) = W at *
  go_wp2_with (go_at_call 56; refine hE.mono ?_; rintro e w1 ⟨rfl, hx1⟩)
  go_ret
  exact ⟨rfl, hx0.trans hx1⟩
/-- the places below i whose row is the row -/
def alikeN (m : List HdR) (row : List Vl) (i : Nat) : List Int := ((List.range i).filter fun j => decide ((nthH m j).1.2.2 = row)).map fun j : Nat => (j : Int)
theorem alikeN_le (m : List HdR) (row : List Vl) (i : Nat) : (alikeN m row i).length ≤ i := by
  unfold alikeN
  rw [List.length_map]
  exact Nat.le_trans (List.length_filter_le ..) (by simp)
theorem alikeN_yes {m : List HdR} {row : List Vl} {i : Nat} (h : (nthH m i).1.2.2 = row) : alikeN m row (i + 1) = alikeN m row i ++ [(i : Int)] := by
  unfold alikeN
  rw [List.range_succ, List.filter_append]
  simp [h]
theorem alikeN_no {m : List HdR} {row : List Vl} {i : Nat} (h : ¬ (nthH m i).1.2.2 = row) : alikeN m row (i + 1) = alikeN m row i := by
  unfold alikeN
  rw [List.range_succ, List.filter_append]
  simp [h]
set_option maxHeartbeats 4000000 in
theorem alike_any (Q : Option Addr) (d : Nat) (m : List HdR) (P : Option Addr) (c : Nat) (row : List Vl) (cb : Nat) (w : World) (hm : SlH w Q d m) (hl : m.length ≤ 100000) (hc : w.cell? ⟨cb, 0, none⟩ = some (.slice P row.length c)) (hs : SlV w P c row) :
    Calls Tryd.prog 54 #[.slice Q m.length d, .func (.func 55) #[] #[.pointer (some ⟨cb, 0, none⟩)]] w fun e w' => (∃ v, e = .returned v ∧ OwnI w' w.heap.size v (alikeN m row m.length)) ∧ Ext w w' := by
  have hlen := hm.sl.len
  go_enter Tryd.func54, Tryd.ntmps54
  go_wp2
  go_loopw [10, 5, 6, 7] (fun i v _ _ wr => ∃ j : Nat, j ≤ m.length ∧ i = .int .i64 j ∧ OwnI wr w.heap.size v (alikeN m row j) ∧ Ext w wr) (fun i _ _ _ _ => m.length - (intOf i).toNat)
  case atStart => exact ⟨0, by omega, rfl, OwnG.nil _ _ _ _ _, Ext.refl _⟩
  case round =>
    obtain ⟨j, hj, rfl, ho, hx⟩ := hrel
    by_cases hlt : j < m.length
    · have cj : (j : Int) < m.length := by omega
      have d1 : IntKind.i64.wrap ((j : Int) + 1) = (j : Int) + 1 := IntWalk.i64_in _ ⟨by omega, by omega⟩
      obtain ⟨b, off, hP, g0, g1⟩ := (hm.ext hx).at_ j hlt
      subst hP
      have hrw := ((hm.row _ (nthH_mem hlt)).1)
      have HB0 := Lib.hid (BoxN.new wr 36 #[.slice (nthH m j).1.1 (nthH m j).1.2.2.length (nthH m j).1.2.1, .int .i64 (nthH m j).2])
      have hx1 := hx.alloc (.cells #[.slice (nthH m j).1.1 (nthH m j).1.2.2.length (nthH m j).1.2.1, .int .i64 (nthH m j).2] 36)
      have hW := fun W (hxx : Ext w W) => with1_any (nthH m j) P c row cb W (hxx.cell hc) (hs.ext hxx) (hrw.ext hxx)
      have HX := Lib.hid hx
      have HO := Lib.hid (OwnG.ext ho ((Ext.refl wr).alloc (.cells #[.slice (nthH m j).1.1 (nthH m j).1.2.2.length (nthH m j).1.2.1, .int .i64 (nthH m j).2] 36)))
      have HAL := Lib.hid (alikeN_le m row j)
      have hb0 := HB0.out.cell (i := 0) rfl
      have hb1 := HB0.out.cell (i := 1) rfl
      by_cases he : (nthH m j).1.2.2 = row
      · have HY := Lib.hid (alikeN_yes he)
        simp only [decide_eq_true he] at hW
        clear ho hrw he
        generalize nthH m j = x at *
        go_wp2_with (fail)
        generalize wr.alloc (.cells #[.slice x.1.1 x.1.2.2.length x.1.2.1, .int .i64 x.2] 36) = W at *
        go_wp2_with (first
          | (go_at_call 55; refine (hW _ hx1).mono ?_; rintro e w1 ⟨rfl, hx2⟩)
          | (at_builtin; refine wpList_app_G _ elemI rfl _ _ rfl (base := w.heap.size) rfl (OwnG.ext (OwnG.ext HO.out hx2) ((Ext.refl _).alloc _)) (m := [(j : Int)]) rfl (SlG.one elemI.hk _ ?c1 ?c2) ?c3 ?c4 ?c5 ?c6 ?_))
        all_goals first
          | rfl
          | (intro e; cases e; done)
          | (have := HAL.out; have := hx2.size; have := hx1.size; simp; omega; done)
          | skip
        intro v7 w7 ho7 hb7
        have hx7 := below_ext ((hx1.trans hx2).alloc (.cells #[.int .i64 (j : Int)] 3)) hb7 (Nat.le_refl _)
        go_wp2_with (fail)
        go_roundw
        case rel => exact ⟨j + 1, by omega, by go_num, by rw [HY.out]; exact ho7, hx7⟩
        case measure => simp [intOf]; omega
      · have HY := Lib.hid (alikeN_no he)
        simp only [decide_eq_false he] at hW
        clear ho hrw he
        generalize nthH m j = x at *
        go_wp2_with (fail)
        generalize wr.alloc (.cells #[.slice x.1.1 x.1.2.2.length x.1.2.1, .int .i64 x.2] 36) = W at *
        go_wp2_with (go_at_call 55; refine (hW _ hx1).mono ?_; rintro e w1 ⟨rfl, hx2⟩)
        go_roundw
        case rel => exact ⟨j + 1, by omega, by go_num, by rw [HY.out]; exact OwnG.ext HO.out hx2, hx1.trans hx2⟩
        case measure => simp [intOf]; omega
    · obtain rfl : j = m.length := by omega
      go_wp2
      go_ret
      exact ⟨⟨_, rfl, ho⟩, hx⟩
end
section
open Go.RowKit
set_option linter.unusedVariables false
set_option maxRecDepth 20000
set_option linter.unusedSimpArgs false
set_option linter.unusedSectionVars false
set_option maxRecDepth 100000
attribute [local go_sem] Oper.semAt_some

theorem FullT.hh {V : Hd → Prop} {H : Hd → Nat} {h r : Nat} {T : List (Bkt Hd)} (F : FullT V H h r T) : 1 ≤ h ∧ h ≤ 100 ∧ 1 ≤ r ∧ r ≤ 20 := by
  obtain ⟨R, L, F⟩ := F
  exact ⟨F.h1, F.h2, F.good.r0, F.r2⟩
/-- the raw entries of a home's run -/
def runR (raw : List BkR) (k : Nat) : List HdR := entR raw (pathOf (absT raw) k)
theorem runR_abs {h r : Nat} {raw : List BkR} (F : FullT hdV hdH h r (absT raw)) {k : Nat} (hk : k < h) : (runR raw k).map hdA = runE (absT raw) k := by
  unfold runR runE
  refine entR_abs fun b hb => ?_
  have := way_lt (F.way hk) b hb
  rwa [absT_len] at this
theorem runR_len {h r : Nat} {raw : List BkR} (F : FullT hdV hdH h r (absT raw)) {k : Nat} (hk : k < h) : (runR raw k).length ≤ 500 := by
  have := congrArg List.length (runR_abs F hk)
  rw [List.length_map] at this
  rw [this]
  exact F.run_le hk
theorem runR_rows {h r : Nat} {raw : List BkR} (F : FullT hdV hdH h r (absT raw)) {k : Nat} (hk : k < h) {w : World} {P : Option Addr} {c : Nat} (hs : SlB w P c raw) : ∀ x ∈ runR raw k, SlV w x.1.1 x.1.2.1 x.1.2.2 ∧ (x.1.1 = none → x.1.2.1 = 0) :=
  hs.rows fun b hb => by
    have := way_lt (F.way hk) b hb
    rwa [absT_len] at this
set_option maxHeartbeats 4000000 in
theorem with_any (t h r : Nat) (P : Option Addr) (c : Nat) (raw : List BkR) (Pr : Option Addr) (cr : Nat) (row : List Vl) (w : World) (H : CtR w t h r P c raw) (F : FullT hdV hdH h r (absT raw)) (ht : Tab w) (hs : SlV w Pr cr row) :
    Calls Tryd.prog 36 #[.pointer (some ⟨t, 0, none⟩), .slice Pr row.length cr] w fun e w' => (∃ P1 c1 v2, e = .returned (.tuple #[.slice P1 (runR raw (homeV row % h)).length c1, v2]) ∧ OwnG csHd 36 2 w' w.heap.size (.slice P1 (runR raw (homeV row % h)).length c1) (runR raw (homeV row % h)) ∧ OwnI w' w.heap.size v2 (alikeN (runR raw (homeV row % h)) row (runR raw (homeV row % h)).length)) ∧ Ext w w' := by
  obtain ⟨hh1, hh2, hr1, hr2⟩ := F.hh
  have hk : homeV row % h < h := Nat.mod_lt _ (by omega)
  have hp := F.path hk
  have hml := runR_len F hk
  have hmr := runR_rows F hk H.sl
  have hx0 := (Ext.refl w).alloc (.cells #[.slice Pr row.length cr] 22)
  have hbr := Boxed.new w 22 (.slice Pr row.length cr)
  have hH := fun W (hx : Ext w W) => home_any Pr cr row h W (hs.ext hx) hh1 hh2 (ht.ext hx)
  have hE := fun W (hx : Ext w W) => entries_any t ((homeV row % h : Nat) : Int) h r P c raw (pathOf (absT raw) (homeV row % h)) W (H.ext hx) (F.way hk) (by omega) (by change (runR raw (homeV row % h)).length ≤ _; omega)
  change ∀ W, Ext w W → Calls _ _ _ _ fun e w' => (∃ v, e = .returned v ∧ OwnG csHd 36 2 w' W.heap.size v (runR raw (homeV row % h))) ∧ Ext W w' at hE
  have t0 := (H.box.ext hx0).cell (i := 0) rfl
  have b0 := hbr.cell
  have hhb := hbr.cell
  generalize homeV row % h = k at *
  generalize runR raw k = m at *
  clear hp F
  go_enter Tryd.func36, Tryd.ntmps36
  go_wp2_with (fail)
  generalize w.alloc (.cells #[.slice Pr row.length cr] 22) = W at *
  have hxd := hx0.drew
  go_region_held3 (fun w' => w'.cell? ⟨t, 0, none⟩ = some (.int .i64 h) ∧ w'.cell? ⟨w.heap.size, 0, none⟩ = some (.slice Pr row.length cr)) (go_keep)
    (first
      | (go_at_call 21; refine (hH _ hxd).mono ?_; rintro e w3 ⟨rfl, x3⟩; have y0 := x3.cell ((Ext.refl _).drew.cell t0); have y1 := x3.cell ((Ext.refl _).drew.cell b0))
      | (go_at_call 53; refine (hE _ (hxd.trans x3)).mono ?_; rintro e w4 ⟨⟨v4, rfl, ho4⟩, x4⟩; have y0 := x4.cell y0; have y1 := x4.cell y1)
      | fail)
  have hw4 := (hxd.trans x3).trans x4
  obtain ⟨P1, c1, rfl, hs4⟩ := SlH.of_own ho4 (by omega) (fun x hx => ⟨((hmr x hx).1).ext hw4, (hmr x hx).2⟩)
  have hA := alike_any P1 c1 m Pr cr row w.heap.size w4 hs4 (by omega) y1 (hs.ext hw4)
  go_wp2_with (go_at_call 54; refine hA.mono ?_; rintro e w5 ⟨⟨v5, rfl, ho5⟩, x5⟩)
  have hsz := (hxd.trans x3).size
  have hsz0 := hx0.size
  have hszx := hw4.size
  go_ret2
  exact ⟨⟨P1, c1, v5, rfl, (ho4.ext x5).lower (by omega), OwnG.lower ho5 hszx⟩, hw4.trans x5⟩
end
section
open Go.RowKit Go.Maps
set_option linter.unusedVariables false
set_option maxRecDepth 20000
set_option linter.unusedSimpArgs false
set_option linter.unusedSectionVars false
set_option maxRecDepth 100000
attribute [local go_sem] Oper.semAt_some

/-- in w' the table has the buckets raw; only its own blocks have changed -/
def CtS (w : World) (F : Nat → Prop) (t h r : Nat) (raw : List BkR) (w' : World) : Prop := ∃ P' c' F', CtO w' F' t h r P' c' raw ∧ (∀ k, F k → F' k) ∧ (∀ k, F' k → F k ∨ w.heap.size ≤ k) ∧ UpdF F w w'
theorem CtS.of_ext {w w' : World} {F : Nat → Prop} {t h r : Nat} {P : Option Addr} {c : Nat} {raw : List BkR} (H : CtO w F t h r P c raw) (hx : Ext w w') : CtS w F t h r raw w' :=
  ⟨P, c, F, H.ext hx, fun _ h => h, fun _ h => .inl h, UpdF.of_ext hx F⟩
theorem CtS.trans {w w1 w2 : World} {F F1 : Nat → Prop} {t h r : Nat} {raw : List BkR} (hu : UpdF F w w1) (h1 : ∀ k, F k → F1 k) (h2 : ∀ k, F1 k → F k ∨ w.heap.size ≤ k) (k : CtS w1 F1 t h r raw w2) : CtS w F t h r raw w2 := by
  obtain ⟨P', c', F', H, g1, g2, g3⟩ := k
  refine ⟨P', c', F', H, fun k hk => g1 k (h1 k hk), fun k hk => ?_, hu.trans_new g3 h2⟩
  rcases g2 k hk with h3 | h3
  · exact h2 k h3
  · exact .inr (Nat.le_trans hu.size h3)
theorem CtS.ext {w w1 w2 : World} {F : Nat → Prop} {t h r : Nat} {raw : List BkR} (k : CtS w F t h r raw w1) (hx : Ext w1 w2) : CtS w F t h r raw w2 := by
  obtain ⟨P', c', F', H, g1, g2, g3⟩ := k
  exact ⟨P', c', F', H.ext hx, g1, g2, g3.trans (UpdF.of_ext hx F)⟩
theorem CtS.pre {w w1 w2 : World} {F : Nat → Prop} {t h r : Nat} {raw : List BkR} (hx : Ext w w1) (k : CtS w1 F t h r raw w2) : CtS w F t h r raw w2 :=
  CtS.trans (UpdF.of_ext hx F) (fun _ h => h) (fun _ h => .inl h) k

abbrev MetI (w : World) (M : Nat) (l : List Int) : Prop := MetG (fun x => Lit.int .i64 x) Tryd.prog 3 4 w M l
theorem zeroB (w : World) : (zeroValue 4).run Tryd.prog w = .ok (.bool false) w := by kernel_rfl
theorem int_inj : ∀ x y : Int, (fun x => Lit.int .i64 x) x = (fun x => Lit.int .i64 x) y → x = y := fun x y h => by simpa using h
theorem keyedI : Keyed Tryd.prog 3 := int_keyed Tryd.underlying3
theorem key_i {x : Int} (h1 : -9223372036854775808 ≤ x) (h2 : x ≤ 9223372036854775807) : keyOf Tryd.prog 3 (.int .i64 x) = some (.int .i64 x) :=
  keyOf_int_mk Tryd.underlying3 (by simp [Lit.wf, IntKind.min, IntKind.max, IntKind.signed, IntKind.bits]; omega)
/-- the next buckets of the first buckets -/
def nextsI (raw : List BkR) (j : Nat) : List Int := (raw.take j).map (·.2)
theorem nextsI_succ {raw : List BkR} {j : Nat} (h : j < raw.length) : nextsI raw (j + 1) = nextsI raw j ++ [(nthBk raw j).2] := by
  unfold nextsI
  rw [List.take_add_one, nthBk_some h]
  simp
theorem nextsI_led {raw : List BkR} (i : Nat) : decide ((i : Int) ∈ nextsI raw raw.length) = ledB (absT raw) i := by
  unfold nextsI
  rw [List.take_length]
  rw [Bool.eq_iff_iff, decide_eq_true_iff, ledB_true]
  constructor
  · intro h
    obtain ⟨x, hx, e⟩ := List.mem_map.1 h
    obtain ⟨b, hb⟩ := List.mem_iff_getElem?.1 hx
    exact ⟨b, bkA x, by unfold absT; rw [List.getElem?_map, hb]; rfl, e⟩
  · rintro ⟨b, x, hb, e⟩
    unfold absT at hb
    rw [List.getElem?_map] at hb
    cases hr : raw[b]? with
    | none => rw [hr] at hb; cases hb
    | some y =>
      rw [hr] at hb
      injection hb with hb
      refine List.mem_map.2 ⟨y, List.mem_of_getElem? hr, ?_⟩
      rw [← hb] at e
      exact e
theorem FullT.next_in {h r : Nat} {raw : List BkR} (F : FullT hdV hdH h r (absT raw)) {b : Nat} (hb : b < raw.length) : -1 ≤ (nthBk raw b).2 ∧ (nthBk raw b).2 < raw.length := by
  obtain ⟨R, L, F⟩ := F
  have hs := absT_some hb
  have hlen := absT_len raw
  by_cases hf : ∀ k, k < h → ∀ i : Nat, (R k)[i]? ≠ some b
  · have := F.good.free b (by omega) hf
    rw [this] at hs
    injection hs with hs
    have h2 : (nthBk raw b).2 = -1 := (congrArg Prod.snd hs).symm
    omega
  · obtain ⟨k, hk, i, hi⟩ : ∃ k, k < h ∧ ∃ i : Nat, (R k)[i]? = some b := by
      refine Classical.byContradiction fun hn => hf fun k hk i hi => hn ⟨k, hk, i, hi⟩
    have := F.good.cell k hk i b hi
    rw [this] at hs
    injection hs with hs
    have h2 : (nthBk raw b).2 = nextOf (R k) i := (congrArg Prod.snd hs).symm
    rw [h2]
    unfold nextOf
    cases hn : (R k)[i + 1]? with
    | none => simp; omega
    | some c =>
      have := F.good.lt hk hn
      rw [absT_len] at this
      simp; omega
def rawR (raw : List BkR) (f : Nat) : List BkR := if f = raw.length then raw ++ [bk0] else raw
theorem rawR_abs (raw : List BkR) (f : Nat) : absT (rawR raw f) = roomF (absT raw) f := by
  unfold rawR roomF
  rw [absT_len]
  split
  · rw [absT_app]; rfl
  · rfl
set_option maxHeartbeats 8000000 in
theorem free_any (F : Nat → Prop) (t h r : Nat) (P : Option Addr) (c : Nat) (raw : List BkR) (w : World) (H : CtO w F t h r P c raw) (hT : FullT hdV hdH h r (absT raw)) (hl : raw.length ≤ 5000) :
    Calls Tryd.prog 59 #[.pointer (some ⟨t, 0, none⟩)] w fun e w' => e = .returned (.int .i64 (freeF h (absT raw) : Nat)) ∧ CtS w F t h r (rawR raw (freeF h (absT raw))) w' := by
  obtain ⟨hh1, hh2, hr1, hr2⟩ := hT.hh
  have hel : ∀ x ∈ raw, x.1.2.2.length ≤ 100000 := fun x hx => by
    obtain ⟨R, L, G⟩ := hT
    obtain ⟨b, hb⟩ := List.mem_iff_getElem?.1 hx
    have hb1 := (List.getElem?_eq_some_iff.1 hb).1
    have h1 := cntK_succ hb1
    have h2 := cntK_le raw (b + 1)
    have h3 := G.c500
    rw [nthBk_some hb1] at hb
    injection hb with hb
    rw [← hb]
    omega
  have hR := H.ctr (by omega) hel
  have HNX := fun b (hb : b < raw.length) => Lib.hid (hT.next_in hb)
  have hht : h ≤ raw.length := by
    obtain ⟨R, L, G⟩ := hT
    have := G.good.hT
    rwa [absT_len] at this
  have HFR := Lib.hid (freeF_is (h := h) (T := absT raw) (by rw [absT_len]; exact hht))
  have hx0 := (Ext.refl w).alloc (.map #[] 0)
  have t2 := (H.box.ext hx0).cell (i := 2) rfl
  have hM0 : MetI _ w.heap.size [] := MetG.made w
  have hmm := @run_makeMap Tryd.prog
  clear hT
  go_enter Tryd.func59, Tryd.ntmps59
  go_wp2_with (fail)
  generalize w.alloc (.map #[] 0) = W at *
  go_loopw [13] (fun i wr => ∃ j : Nat, j ≤ raw.length ∧ i = .int .i64 j ∧ MetI wr w.heap.size (nextsI raw j) ∧ Ext w wr) (fun i _ => raw.length - (intOf i).toNat)
  case atStart => exact ⟨0, by omega, rfl, hM0, hx0⟩
  case round =>
    obtain ⟨j, hj, rfl, hM, hx⟩ := hrel
    by_cases hlt : j < raw.length
    · have cj : (j : Int) < raw.length := by omega
      have d1 : IntKind.i64.wrap ((j : Int) + 1) = (j : Int) + 1 := IntWalk.i64_in _ ⟨by omega, by omega⟩
      obtain ⟨b, off, hP, g0, g1⟩ := (hR.sl.ext hx).at_ j hlt
      subst hP
      have hni := (HNX j hlt).out
      have hkey := key_i (x := (nthBk raw j).2) (by omega) (by omega)
      have HS := Lib.hid (nextsI_succ hlt)
      have HL := Lib.hid (show (nextsI raw j).length < 9223372036854775807 from by unfold nextsI; rw [List.length_map, List.length_take]; omega)
      have HM := Lib.hid hM
      have HX := Lib.hid hx
      clear hM
      generalize nthBk raw j = B at *
      obtain ⟨⟨Pe, ce, le⟩, nx⟩ := B
      have HB := BoxN.new wr 34 #[.slice Pe le.length ce, .int .i64 nx]
      have b1 := HB.cell (i := 1) rfl
      go_wp2_with (at_mapUpdate; refine wpList_store_met rfl _ _ _ 117 rfl (MetG.ext HM.out ((Ext.refl _).alloc _)) keyedI Tryd.underlying117 Tryd.underlying4 HL.out int_inj rfl _ nx rfl rfl trivial hkey ?_; intro w2 hM2 hg2)
      go_roundw
      case rel => exact ⟨j + 1, by omega, by go_num, by rw [HS.out]; exact hM2, Below.grown (HX.out.alloc _) hg2 (HX.out.alloc _).size (fun j hj => by injection hj with hj; omega)⟩
      case measure => simp [intOf]; omega
    · obtain rfl : j = raw.length := by omega
      have hxr := hx
      have HRX := H.ext hx
      have t0 := HRX.box.cell (i := 0) rfl
      have t2 := HRX.box.cell (i := 2) rfl
      have HM := Lib.hid hM
      have HLK := fun i (hi : i < raw.length) => Lib.hid (MetG.look hM keyedI Tryd.underlying117 Tryd.underlying4 (zeroB wr) (key_i (x := (i : Int)) (by omega) (by omega)))
      have HT := Lib.hid hht
      clear hM hx hht
      generalize hTT : absT raw = T at *
      have HTT := Lib.hid hTT
      have HTL := Lib.hid (show T.length = raw.length from by rw [← hTT, absT_len])
      clear hTT
      go_wp2_with (fail)
      obtain ⟨wo, hwo⟩ : ∃ wo : World, wo = wr := ⟨_, rfl⟩
      rw [← hwo] at HRX hxr HLK HM t0 t2 ⊢
      clear hwo wr
      go_loopw [6] (fun a wr2 => ∃ i : Nat, h ≤ i ∧ i ≤ raw.length ∧ a = .int .i64 i ∧ Hid (∀ y, h ≤ y → y < i → ledB T y = true) ∧ wr2 = wo) (fun a _ => raw.length - (intOf a).toNat)
      case atStart => exact ⟨h, Nat.le_refl _, HT.out, rfl, Lib.hid (fun y h1 h2 => by omega), rfl⟩
      case round =>
        obtain ⟨i, hi1, hi2, rfl, hall, rfl⟩ := hrel
        by_cases hlt2 : i < raw.length
        · have c2' : (i : Int) < raw.length := by omega
          have d1 : IntKind.i64.wrap ((i : Int) + 1) = (i : Int) + 1 := IntWalk.i64_in _ ⟨by omega, by omega⟩
          have hlk := (HLK i hlt2).out
          rw [nextsI_led, HTT.out] at hlk
          cases hled : ledB T i with
          | true =>
            rw [hled] at hlk
            have HE := Lib.hid hled
            clear hled
            go_wp2_with (fail)
            go_roundw
            case rel => exact ⟨i + 1, by omega, by omega, by go_num, Lib.hid (fun y h1 h2 => by
              by_cases e : y = i
              · subst e; exact HE.out
              · exact hall.out y h1 (by omega)), by first | trivial | rfl⟩
            case measure => simp [intOf]; omega
          | false =>
            rw [hled] at hlk
            have hff : freeF h T = i := HFR.out.uniq ⟨hi1, by have := HTL.out; omega, hall.out, fun _ => hled⟩
            have HFF := Lib.hid hff
            clear hled hff
            go_wp2_with (fail)
            go_ret
            refine ⟨by rw [HTT.out, HFF.out]; rfl, ?_⟩
            rw [HTT.out, HFF.out, show rawR raw i = raw from by unfold rawR; rw [if_neg (by omega)]]
            exact CtS.of_ext H hxr
        · obtain rfl : i = raw.length := by omega
          have hff : freeF h T = raw.length := HFR.out.uniq ⟨hi1, by have := HTL.out; omega, hall.out, fun e => by have := HTL.out; omega⟩
          have HFF := Lib.hid hff
          have hxa := (Ext.refl wr).alloc (.cells #[.slice none 0 0, .int .i64 (-1)] 34)
          have HO := Lib.hid (HRX.ext hxa)
          have hsz := hxr.size
          clear hff HLK HFR
          go_wp2_with (at_builtin; refine wpList_app_U _ elemBk rfl _ _ rfl (base := 0) rfl HO.out.own (m := [bk0]) rfl (SlG.one elemBk.hk _ ?c1 ?c2) ?c3 ?c4 ?c5 ?c6 ?_)
          all_goals first
            | rfl
            | (intro e; cases e; done)
            | (simp; done)
            | (simp; omega; done)
            | skip
          intro v7 w7 ho7 hg7 hb7 hob7
          obtain ⟨P7, c7, F', rfl, e7, f7, H7, g0, g1, g2⟩ := HO.out.push ho7 hg7 (by simpa using hob7) (by omega)
          have HH7 := Lib.hid H7
          have HG := Lib.hid (And.intro g0 (And.intro g1 g2))
          have k2 := H7.box.cell (i := 2) rfl
          have hlen : (raw ++ [((none, 0, []), -1)] : List BkR).length = raw.length + 1 := by simp
          rw [hlen] at k2
          have d2 : IntKind.i64.wrap (((raw.length + 1 : Nat) : Int) - 1) = (raw.length : Int) := by rw [show ((raw.length + 1 : Nat) : Int) - 1 = (raw.length : Int) from by omega]; exact IntWalk.i64_in _ ⟨by omega, by omega⟩
          clear H7 ho7 hg7 hb7 hob7 g0 g1 g2 t2 hlen
          go_wp2_with (fail)
          go_ret
          refine ⟨by rw [HTT.out, HFF.out]; rfl, ?_⟩
          rw [HTT.out, HFF.out, show rawR raw raw.length = raw ++ [((none, 0, []), -1)] from by unfold rawR; rw [if_pos rfl]; rfl]
          exact CtS.pre (hxr.trans hxa) ⟨P7, c7, F', HH7.out, HG.out.1, HG.out.2.1, HG.out.2.2⟩
end
section
open Go.RowKit
set_option linter.unusedVariables false
set_option maxRecDepth 20000
section
variable {P : Program} {md : Region.Mode} {ops : Array Oper} {Q : Exit → Act → World → Prop} {C : World → Prop} {m : Nat}

/-- As the kit's word, but C is asked only while operation m has not come up. -/
def wpAnyF (P : Program) (md : Region.Mode) (ops : Array Oper) (Q : Exit → Act → World → Prop) (C : World → Prop) (m : Nat) : Nat → Array Bool → Act → World → Prop
  | 0, listed, a, w => Region.ready md ops listed = [] ∧ Q .normal a w
  | fuel + 1, listed, a, w =>
    (Region.ready md ops listed = [] → Q .normal a w) ∧
    ∀ i ∈ Region.ready md ops listed, wpOp P ops Q i (fun a' w' => ((listed.setIfInBounds i true).getD m true = false → C w') ∧ wpAnyF P md ops Q C m fuel (listed.setIfInBounds i true) a' w') a w
theorem wpAny_of_F : ∀ (fuel : Nat) (listed : Array Bool) (a : Act) (w : World), wpAnyF P md ops Q C m fuel listed a w → wpAny P md ops Q fuel listed a w
  | 0, _, _, _, h => h
  | fuel + 1, _, _, _, h => ⟨h.1, fun i hi => wpOp_mono (fun a' w' h' => wpAny_of_F fuel _ a' w' h'.2) (h.2 i hi)⟩
theorem wpAnyF_first {i : Nat} {oi om : Oper} {v : Value} (hi : ops[i]? = some oi) (hm : ops[m]? = some om) (hmi : ∃ e ∈ om.after, Region.binds md e = true ∧ e.on = i) (hne : m ≠ i)
    (hsel : ∀ (j : Nat) (o : Oper) cs b, ops[j]? = some o → o.op ≠ .select cs b) (hQ : ∀ c a w, Q (.panic c) (a.put oi.dst v) w → Q (.panic c) a w) :
    ∀ (fuel : Nat) (listed : Array Bool) (a : Act) (w : World),
      (∀ j oj, ops[j]? = some oj → j ≠ i → listed.getD j true = false → (∀ e ∈ oj.after, Region.binds md e = true → e.on ≠ i) → oi.apart ops oj = true) →
      i ∈ Region.ready md ops listed → YieldsIf P ops C oi v a → C w → listed.getD m true = false →
      wpAnyF P md ops Q C m fuel (listed.setIfInBounds i true) (a.put oi.dst v) w → wpAnyF P md ops Q C m (fuel + 1) listed a w := by
  intro fuel
  induction fuel with
  | zero =>
    intro listed a w _ hr hy hC hl H
    refine ⟨fun h => (by rw [h] at hr; cases hr), fun j hj => ?_⟩
    by_cases hji : j = i
    · subst hji; exact hy.wpOp hi hC ⟨fun _ => hC, H⟩
    · have := ready_mono hj hji
      rw [H.1] at this
      cases this
  | succ fuel ih =>
    intro listed a w hfree hr hy hC hl H
    refine ⟨fun h => (by rw [h] at hr; cases hr), fun j hj => ?_⟩
    by_cases hji : j = i
    · subst hji; exact hy.wpOp hi hC ⟨fun _ => hC, H⟩
    · have h1 := H.2 j (ready_mono hj hji)
      obtain ⟨hjun, oj, hoj, hall⟩ := mem_ready.1 hj
      have hnot : ∀ e ∈ oj.after, Region.binds md e = true → e.on ≠ i := fun e he hb heq => by
        have h1 := hall e he hb
        have h0 := (mem_ready.1 hr).1
        rw [heq] at h1
        rcases Nat.lt_or_ge i listed.size with h' | h'
        · simp [h'] at h0 h1; rw [h0] at h1; cases h1
        · simp [Array.getElem?_eq_none h'] at h1
      have hjm : j ≠ m := fun e => by
        subst e
        rw [hoj] at hm
        injection hm with hm
        subst hm
        obtain ⟨x, hx, hb, he⟩ := hmi
        exact hnot x hx hb he
      have hlm : ((listed.setIfInBounds i true).setIfInBounds j true).getD m true = false := by
        rw [getD_set_ne true hjm, getD_set_ne true (Ne.symm hne)]; exact hl
      have h2 := wpOp_putIf hoj (hfree j oj hoj hji hjun hnot) (fun cs b => hsel i oi cs b hi) (fun cs b => hsel j oj cs b hoj) hQ hy h1
      have hfree' : ∀ k ok, ops[k]? = some ok → k ≠ i → (listed.setIfInBounds j true).getD k true = false →
          (∀ e ∈ ok.after, Region.binds md e = true → e.on ≠ i) → oi.apart ops ok = true := fun k ok hk hki hun hno => by
        refine hfree k ok hk hki ?_ hno
        by_cases hjk : j = k
        · subst hjk; exact hjun
        · rw [getD_set_ne true hjk] at hun; exact hun
      refine wpOp_mono (fun a' w' h3 => ⟨fun _ => h3.2.1 hlm, ih (listed.setIfInBounds j true) a' w' hfree' (ready_mono hr (Ne.symm hji)) h3.1 (h3.2.1 hlm) (by rw [getD_set_ne true hjm]; exact hl) ?_⟩) h2
      rw [Array.setIfInBounds_comm _ _ hji]
      exact h3.2.2
theorem wpAnyF_take {i : Nat} {oi : Oper} {v : Value} {fuel : Nat} {listed : Array Bool} {a : Act} {w : World} (hi : ops[i]? = some oi)
    (hb : (match ops[m]? with | some om => om.after.any fun e => Region.binds md e && (e.on == i) | none => false) = true) (hne : (m == i) = false)
    (hs : Region.noSelect ops = true) (hf : Region.free md ops listed i = true) (hr : (Region.ready md ops listed).contains i = true) (hl : listed.getD m true = false)
    (hQ : ∀ c a w, Q (.panic c) (a.put oi.dst v) w → Q (.panic c) a w) (hy : YieldsIf P ops C oi v a) (hC : C w)
    (h : wpAnyF P md ops Q C m fuel (listed.setIfInBounds i true) (a.put oi.dst v) w) : wpAnyF P md ops Q C m (fuel + 1) listed a w := by
  cases hm : ops[m]? with
  | none => rw [hm] at hb; cases hb
  | some om =>
    rw [hm] at hb
    have hb' : ∃ e ∈ om.after, Region.binds md e = true ∧ e.on = i := by
      simp only [Array.any_eq_true, Bool.and_eq_true, beq_iff_eq] at hb
      obtain ⟨k, hk, h1, h2⟩ := hb
      exact ⟨_, Array.getElem_mem hk, h1, h2⟩
    exact wpAnyF_first hi hm hb' (by simpa using hne) (Region.noSelect_spec hs) hQ fuel listed a w (Region.free_spec hi hf) (by simpa using hr) hy hC hl h
theorem wpAnyF_one {i : Nat} {o : Oper} {fuel : Nat} {listed : Array Bool} {a : Act} {w : World} (ho : ops[i]? = some o) (hr : Region.ready md ops listed = [i]) (hw : Region.wanted o (yielded ops a.tmps) = true)
    (h : ∀ K' : Act → World → Prop, (∀ a' w', ((listed.setIfInBounds i true).getD m true = false → C w') → wpAnyF P md ops Q C m fuel (listed.setIfInBounds i true) a' w' → K' a' w') → o.wp P a w K' Q) : wpAnyF P md ops Q C m (fuel + 1) listed a w := by
  refine ⟨fun h0 => (by rw [hr] at h0; cases h0), fun j hj => ?_⟩
  rw [hr] at hj
  obtain rfl : j = i := by simpa using hj
  exact wpOp_here ho hw fun K' hK => h K' fun a' w' h1 h2 => hK a' w' ⟨h1, h2⟩
theorem wpAnyF_two {i j : Nat} {o o' : Oper} {fuel : Nat} {listed : Array Bool} {a : Act} {w : World} (ho : ops[i]? = some o) (ho' : ops[j]? = some o') (hr : Region.ready md ops listed = [i, j])
    (hw : Region.wanted o (yielded ops a.tmps) = true) (hw' : Region.wanted o' (yielded ops a.tmps) = true)
    (h : ∀ K' : Act → World → Prop, (∀ a' w', ((listed.setIfInBounds i true).getD m true = false → C w') → wpAnyF P md ops Q C m fuel (listed.setIfInBounds i true) a' w' → K' a' w') → o.wp P a w K' Q)
    (h' : ∀ K' : Act → World → Prop, (∀ a' w', ((listed.setIfInBounds j true).getD m true = false → C w') → wpAnyF P md ops Q C m fuel (listed.setIfInBounds j true) a' w' → K' a' w') → o'.wp P a w K' Q) : wpAnyF P md ops Q C m (fuel + 1) listed a w := by
  refine ⟨fun h0 => (by rw [hr] at h0; cases h0), fun k hk => ?_⟩
  rw [hr] at hk
  have hk' : k = i ∨ k = j := by simpa using hk
  rcases hk' with rfl | rfl
  · exact wpOp_here ho hw fun K' hK => h K' fun a' w' h1 h2 => hK a' w' ⟨h1, h2⟩
  · exact wpOp_here ho' hw' fun K' hK => h' K' fun a' w' h1 h2 => hK a' w' ⟨h1, h2⟩
theorem wpAnyF_done {listed : Array Bool} {a : Act} {w : World} (hr : Region.ready md ops listed = []) (h : Q .normal a w) : ∀ fuel, wpAnyF P md ops Q C m fuel listed a w
  | 0 => ⟨hr, h⟩
  | _ + 1 => ⟨fun _ => h, by rw [hr]; simp⟩
/-- the beginning -/
theorem wp_region_F {id : Nat} {a : Act} {w : World} (C : World → Prop) (m : Nat) (hm : P.follows .mixedOrders = true)
    (h : wpAnyF P .any ops Q C m ops.size (Array.replicate ops.size false) a { w with drawn := w.drawn + 1 }) : (Code.region id ops true).wp P Q a w :=
  wp_region_any hm (wpAny_of_F _ _ _ _ h)
end
end
end Go.Proofs.YtcbinafokhekmaaDoor
