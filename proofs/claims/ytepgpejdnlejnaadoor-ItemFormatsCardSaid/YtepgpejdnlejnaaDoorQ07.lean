/- ItL; ItM; ItN; ItO; ItP (merged by group.py) -/
import Derived.Test.YtepgpejdnlejnaaDoorQ06
import Derived.Test.YtepgpejdnlejnaaDoorQ02
import Derived.Deep.LoopGhost
import Derived.StringKeys
import Derived.Deep.RegionHeld3
namespace Go.Proofs.YtepgpejdnlejnaaDoor
section
open Go.RowKit Go.Maps
set_option linter.unusedVariables false
set_option linter.unusedSimpArgs false
set_option linter.unusedSectionVars false
set_option maxRecDepth 20000
attribute [local go_sem] Oper.semAt_some

section
variable {α : Type} [DecidableEq α] {mk : α → Lit} {P : Program} {k e : TypeId} {w : World} {b : Nat} {l : List α}
theorem MetG.look_yes (h : MetG mk P k e w b l) (K : Keyed P k) {t : TypeId} (ht : P.underlying t = some (.map k e)) (he : P.underlying e = some .bool) (hz : (zeroValue e).run P w = .ok (.bool false) w) {key : Value} {x : α} (hkey : keyOf P k key = some (mk x)) (hm : x ∈ l) :
    (Instr.lookup t (.map (some b)) key false).run P w = .ok (.bool true) w := by
  have := h.look K ht he hz hkey
  rwa [decide_eq_true hm] at this
theorem MetG.look_no (h : MetG mk P k e w b l) (K : Keyed P k) {t : TypeId} (ht : P.underlying t = some (.map k e)) (he : P.underlying e = some .bool) (hz : (zeroValue e).run P w = .ok (.bool false) w) {key : Value} {x : α} (hkey : keyOf P k key = some (mk x)) (hm : x ∉ l) :
    (Instr.lookup t (.map (some b)) key false).run P w = .ok (.bool false) w := by
  have := h.look K ht he hz hkey
  rwa [decide_eq_false hm] at this
end
def mkS : ByteArray → Lit := fun s => Lit.string s.data.toList
/-- block M of the heap is the set of the texts l -/
def MetS (w : World) (M : Nat) (l : List ByteArray) : Prop := MetG mkS Tryd.prog 9 4 w M l
theorem keyedS : Keyed Tryd.prog 9 := string_keyed Tryd.underlying9
theorem zeroB (w : World) : (zeroValue 4).run Tryd.prog w = .ok (.bool false) w := by kernel_rfl
theorem mkS_inj : ∀ x y : ByteArray, mkS x = mkS y → x = y := fun x y h => by
  unfold mkS at h
  injection h with h
  exact ByteArray.ext (Array.ext' h)
theorem keyOf_S (s : ByteArray) (hs : s.size ≤ 16) : keyOf Tryd.prog 9 (.string s) = some (mkS s) := Go.WideMaps.keyOf_string_mk Tryd.underlying9 (by unfold maxLen; omega)
theorem itemB_name {x : It} (h : itemB x = true) : x.1.size ≤ 16 := by
  unfold itemB at h
  rw [Bool.and_eq_true] at h
  exact (nameF_iff.1 h.1).1.2
theorem idxF_iff (l : List It) (k : Nat) (hk : k < l.length) : idxF l (nthT l k).1 = k ↔ (nthT l k).1 ∉ (l.take k).map (·.1) := by
  constructor
  · intro h hm
    obtain ⟨y, hy, he⟩ := List.mem_map.1 hm
    have key : ∀ (l : List It) (k : Nat) (s : ByteArray), (∃ y ∈ l.take k, y.1 = s) → idxF l s < k := by
      intro l
      induction l with
      | nil => intro k s h; obtain ⟨y, hy, _⟩ := h; simp at hy
      | cons x l ih =>
        intro k s h
        cases k with
        | zero => obtain ⟨y, hy, _⟩ := h; simp at hy
        | succ k =>
          simp only [idxF]
          split
          · omega
          · rename_i hx
            have := ih k s (by
              obtain ⟨y, hy, h2⟩ := h
              simp only [List.take_succ_cons, List.mem_cons] at hy
              rcases hy with rfl | hy
              · exact absurd h2 hx
              · exact ⟨y, hy, h2⟩)
            split <;> omega
    have := key l k _ ⟨y, hy, he⟩
    omega
  · intro h
    exact idxF_at l _ k _ (nthT_some hk) (fun j y hj hy e => h (List.mem_map.2 ⟨y, by
      rw [List.mem_take_iff_getElem]
      obtain ⟨hj2, e2⟩ := List.getElem?_eq_some_iff.1 hy
      exact ⟨j, by omega, by simpa using e2⟩, e⟩)) rfl
theorem names_succ (l : List It) (k : Nat) (hk : k < l.length) : (l.take (k + 1)).map (·.1) = (l.take k).map (·.1) ++ [(nthT l k).1] := by
  rw [List.take_add_one, nthT_some hk]
  simp

set_option maxHeartbeats 4000000 in
theorem items_any (P : Option Addr) (cap : Nat) (l : List It) (w : World) (h : SlT w P cap l) :
    Calls Tryd.prog 20 #[.slice P l.length cap] w fun e w' => e = .returned (.bool (itemsB l)) ∧ Ext w w' := by
  have hlen := h.len
  have hM0 : MetS (w.alloc (.map #[] 0)) w.heap.size [] := MetG.made w
  have hx0 := (Ext.refl w).alloc (.map #[] 0)
  have hmm := @run_makeMap Tryd.prog
  go_enter Tryd.func20, Tryd.ntmps20
  go_wp2
  clear hmm
  go_loopw [9, 5] (fun i _ wr => ∃ k : Nat, k ≤ l.length ∧ i = .int .i64 k ∧ (∀ j : Nat, j < k → goodT l j) ∧ MetS wr w.heap.size ((l.take k).map (·.1)) ∧ Ext w wr) (fun i _ _ => l.length - (intOf i).toNat)
  case atStart => exact ⟨0, by omega, rfl, by intro j hj; omega, hM0, hx0⟩
  case round =>
    obtain ⟨k, hk, rfl, hall, hM, hx⟩ := hrel
    by_cases hlt : k < l.length
    · obtain ⟨b, off, hP, g0, g1, g2, g3, g4⟩ := h.itemAt k hlt
      subst hP
      have g0 := hx.cell g0
      have g1 := hx.cell g1
      have g2 := hx.cell g2
      have g3 := hx.cell g3
      have g4 := hx.cell g4
      have c1 : (k : Int) < l.length := by omega
      have d1 : IntKind.i64.wrap ((k : Int) + 1) = (k : Int) + 1 := IntWalk.i64_in _ ⟨by omega, by omega⟩
      have hV := fun W => item_any (nthT l k) W
      unfold It.v at hV
      cases hv : itemB (nthT l k) with
      | false =>
        have Hn : Hid (itemsB l = false) := Lib.hid (by unfold itemsB; rw [knownB_no hlt (fun hg => by rw [hg.1] at hv; cases hv), Bool.and_false])
        simp only [hv] at hV
        generalize nthT l k = x at *
        clear hall hv hM hM0
        go_wp2_with (go_at_call 14; refine (hV _).mono ?_; rintro e w1 ⟨rfl, hx1⟩)
        go_ret
        exact ⟨by rw [Hn.out]; rfl, (hx.alloc _).trans hx1⟩
      | true =>
        simp only [hv] at hV
        have hkey := keyOf_S _ (itemB_name hv)
        by_cases hm : (nthT l k).1 ∈ (l.take k).map (·.1)
        · have Hn : Hid (itemsB l = false) := Lib.hid (by unfold itemsB; rw [knownB_no hlt (fun hg => (idxF_iff l k hlt).1 hg.2 hm), Bool.and_false])
          have HL := fun w1 (h1 : Ext wr w1) => MetG.look_yes (hM.ext h1) keyedS Tryd.underlying69 Tryd.underlying4 (zeroB w1) hkey hm
          generalize nthT l k = x at *
          clear hall hv hM0 hm
          go_wp2_with (first
            | (go_at_call 14; refine (hV _).mono ?_; rintro e w1 ⟨rfl, hx1⟩; have gf : w1.cell? ⟨wr.heap.size, 0, none⟩ = some (.string x.1) := hx1.cell ((World.cell?_alloc_mark _ _ _ _ 0).trans rfl); have hlk := HL _ (((Ext.refl wr).alloc _).trans hx1)))
          go_ret
          exact ⟨by rw [Hn.out]; rfl, (hx.alloc _).trans hx1⟩
        · have Hy : Hid (∀ j : Nat, j < k + 1 → goodT l j) := Lib.hid (fun j hj => by
            by_cases hjk : j = k
            · subst hjk; exact ⟨hv, (idxF_iff l j hlt).2 hm⟩
            · exact hall j (by omega))
          have Hs := Lib.hid (names_succ l k hlt)
          have hll : ((l.take k).map (·.1)).length ≤ 9223372036854775806 := by rw [List.length_map, List.length_take]; omega
          have HL := fun w1 (h1 : Ext wr w1) => MetG.look_no (hM.ext h1) keyedS Tryd.underlying69 Tryd.underlying4 (zeroB w1) hkey hm
          generalize nthT l k = x at *
          clear hall hv hM0 hm
          go_wp2_with (first
            | (go_at_call 14; refine (hV _).mono ?_; rintro e w1 ⟨rfl, hx1⟩; have gf : w1.cell? ⟨wr.heap.size, 0, none⟩ = some (.string x.1) := hx1.cell ((World.cell?_alloc_mark _ _ _ _ 0).trans rfl); have hlk := HL _ (((Ext.refl wr).alloc _).trans hx1); replace hM := hM.ext (((Ext.refl wr).alloc _).trans hx1); have hx2 := (hx.alloc _).trans hx1)
            | (at_mapUpdate; refine wpList_store_met rfl _ _ _ 69 rfl hM keyedS Tryd.underlying69 Tryd.underlying4 (by omega) mkS_inj rfl _ x.1 rfl rfl trivial hkey ?_; intro w2 hM2 hg2; rw [← Hs.out] at hM2))
          go_roundw
          case rel => exact ⟨k + 1, by omega, by go_num, Hy.out, hM2, Below.grown hx2 hg2 hx2.size (fun j hj => by injection hj with hj; omega)⟩
          case measure => simp [intOf]; omega
    · obtain rfl : k = l.length := by omega
      have Hn := Lib.hid (knownB_yes hall)
      clear hall hM hM0
      by_cases h1 : 1 ≤ l.length
      · have h1' : (1 : Int) ≤ l.length := by omega
        by_cases h8 : l.length ≤ 8
        · have h8' : (l.length : Int) ≤ 8 := by omega
          have HB : Hid (itemsB l = true) := Lib.hid (by unfold itemsB; rw [Hn.out, decide_eq_true h8, decide_eq_true (by omega)]; rfl)
          have hW := fun W => within_any l.length 1 8 W
          rw [show withinB l.length 1 8 = true from by simp [withinB]; omega] at hW
          go_wp2_with (go_at_call 54; refine (hW _).mono ?_; rintro e w1 ⟨rfl, rfl⟩)
          go_ret
          exact ⟨by rw [HB.out]; rfl, hx⟩
        · have HB : Hid (itemsB l = false) := Lib.hid (by unfold itemsB; rw [Hn.out, decide_eq_false h8, Bool.and_false])
          have hW := fun W => within_any l.length 1 8 W
          rw [show withinB l.length 1 8 = false from by simp [withinB]; omega] at hW
          clear h8
          go_wp2_with (go_at_call 54; refine (hW _).mono ?_; rintro e w1 ⟨rfl, rfl⟩)
          go_ret
          exact ⟨by rw [HB.out]; rfl, hx⟩
      · have HB : Hid (itemsB l = false) := Lib.hid (by unfold itemsB; rw [decide_eq_false (by omega), Bool.false_and])
        have hW := fun W => within_any l.length 1 8 W
        rw [show withinB l.length 1 8 = false from by simp [withinB]; omega] at hW
        clear h1
        go_wp2_with (go_at_call 54; refine (hW _).mono ?_; rintro e w1 ⟨rfl, rfl⟩)
        go_ret
        exact ⟨by rw [HB.out]; rfl, hx⟩
end
section
open Go.RowKit
set_option linter.unusedVariables false
set_option linter.unusedSimpArgs false
set_option linter.unusedSectionVars false
set_option maxRecDepth 20000
attribute [local go_sem] Oper.semAt_some

def fitB (x : It) (v : Vl) : Bool := valB v && decide (v.1 = x.2.1) && (if v.1 = 2 then decide ((v.2.2.size : Int) ≤ x.2.2.2.2) else withinB v.2.1 x.2.2.1 x.2.2.2.1)
theorem valB_kind {v : Vl} (h : valB v = true) : v.1 = 1 ∨ v.1 = 2 := by
  unfold valB at h
  split at h
  · exact .inl (by assumption)
  · exact .inr (of_decide_eq_true h).1
/-- two boxes were made, then the world grew: what they hold -/
theorem boxes2 {w w1 : World} {A B : Array Value} {t u : TypeId} (hx : Ext ((w.alloc (.cells A t)).alloc (.cells B u)) w1) :
    (∀ i v, A[i]? = some v → w1.cell? ⟨w.heap.size, i, none⟩ = some v) ∧ (∀ i v, B[i]? = some v → w1.cell? ⟨w.heap.size + 1, i, none⟩ = some v) :=
  ⟨fun i v h => hx.cell ((World.cell?_alloc2_first A t _ i).trans h), fun i v h => hx.cell ((World.cell?_alloc2_new _ B u i).trans h)⟩
theorem box1 {w w1 : World} {A : Array Value} {t : TypeId} (hx : Ext (w.alloc (.cells A t)) w1) :
    ∀ i v, A[i]? = some v → w1.cell? ⟨w.heap.size, i, none⟩ = some v := fun i v h => hx.cell ((World.cell?_alloc_mark _ _ _ _ i).trans h)

set_option maxHeartbeats 4000000 in
theorem takes_any (x : It) (v : Vl) (w : World) : Calls Tryd.prog 62 #[x.v, v.v] w fun e w' => e = .returned (.bool (fitB x v)) ∧ Ext w w' := by
  have hV := fun W => value_any v W
  have hk := @valB_kind v
  obtain ⟨s, k, lo, hi, n⟩ := x
  obtain ⟨a, c, t⟩ := v
  show Calls _ _ #[.agg #[.string s, .int .i64 k, .int .i64 lo, .int .i64 hi, .int .i64 n], .agg #[.int .i64 a, .int .i64 c, .string t]] _ _
  unfold Vl.v at hV
  cases hv : valB (a, c, t) with
  | false =>
    have HB := Lib.hid (show fitB (s, k, lo, hi, n) (a, c, t) = false from by simp [fitB, hv])
    simp only [hv] at hV
    clear hk hv
    go_enter Tryd.func62, Tryd.ntmps62
    go_wp2_with (first
      | (go_at_call 12; refine (hV _).mono ?_; rintro e w1 ⟨rfl, hx1⟩; obtain ⟨hA, hB⟩ := boxes2 hx1; have fa1 := hA 1 _ rfl; have fa2 := hA 2 _ rfl; have fa3 := hA 3 _ rfl; have fa4 := hA 4 _ rfl; have fb0 := hB 0 _ rfl; have fb1 := hB 1 _ rfl; have fb2 := hB 2 _ rfl; clear hA hB)
      | (go_at_call 54; refine (within_any _ _ _ _).mono ?_; rintro e w2 ⟨rfl, rfl⟩))
    go_ret
    exact ⟨by rw [HB.out]; first | rfl | (simp; done), (((Ext.refl w).alloc _).alloc _).trans hx1⟩
  | true =>
    have hk := hk hv
    simp only [hv] at hV
    by_cases e : a = k
    · subst e
      rcases hk with hk | hk
      · simp only at hk
        subst hk
        have HB := Lib.hid (show fitB (s, 1, lo, hi, n) (1, c, t) = withinB c lo hi from by simp [fitB, hv])
        clear hv
        go_enter Tryd.func62, Tryd.ntmps62
        go_wp2_with (first
          | (go_at_call 12; refine (hV _).mono ?_; rintro e w1 ⟨rfl, hx1⟩; obtain ⟨hA, hB⟩ := boxes2 hx1; have fa1 := hA 1 _ rfl; have fa2 := hA 2 _ rfl; have fa3 := hA 3 _ rfl; have fa4 := hA 4 _ rfl; have fb0 := hB 0 _ rfl; have fb1 := hB 1 _ rfl; have fb2 := hB 2 _ rfl; clear hA hB)
          | (go_at_call 54; refine (within_any _ _ _ _).mono ?_; rintro e w2 ⟨rfl, rfl⟩))
        go_ret
        exact ⟨by rw [HB.out]; first | rfl | (simp; done), (((Ext.refl w).alloc _).alloc _).trans hx1⟩
      · simp only at hk
        subst hk
        by_cases q1 : (t.size : Int) ≤ n
        · have HB := Lib.hid (show fitB (s, 2, lo, hi, n) (2, c, t) = true from by simp [fitB, hv, q1])
          clear hv
          go_enter Tryd.func62, Tryd.ntmps62
          go_wp2_with (first
            | (go_at_call 12; refine (hV _).mono ?_; rintro e w1 ⟨rfl, hx1⟩; obtain ⟨hA, hB⟩ := boxes2 hx1; have fa1 := hA 1 _ rfl; have fa2 := hA 2 _ rfl; have fa3 := hA 3 _ rfl; have fa4 := hA 4 _ rfl; have fb0 := hB 0 _ rfl; have fb1 := hB 1 _ rfl; have fb2 := hB 2 _ rfl; clear hA hB)
            | (go_at_call 54; refine (within_any _ _ _ _).mono ?_; rintro e w2 ⟨rfl, rfl⟩))
          go_ret
          exact ⟨by rw [HB.out]; first | rfl | (simp; done), (((Ext.refl w).alloc _).alloc _).trans hx1⟩
        · have HB := Lib.hid (show fitB (s, 2, lo, hi, n) (2, c, t) = false from by simp [fitB, hv, q1])
          have q3 : decide ((t.size : Int) ≤ n) = false := decide_eq_false q1
          clear hv q1
          go_enter Tryd.func62, Tryd.ntmps62
          go_wp2_with (first
            | (go_at_call 12; refine (hV _).mono ?_; rintro e w1 ⟨rfl, hx1⟩; obtain ⟨hA, hB⟩ := boxes2 hx1; have fa1 := hA 1 _ rfl; have fa2 := hA 2 _ rfl; have fa3 := hA 3 _ rfl; have fa4 := hA 4 _ rfl; have fb0 := hB 0 _ rfl; have fb1 := hB 1 _ rfl; have fb2 := hB 2 _ rfl; clear hA hB)
            | (go_at_call 54; refine (within_any _ _ _ _).mono ?_; rintro e w2 ⟨rfl, rfl⟩))
          go_ret
          exact ⟨by rw [HB.out]; first | rfl | (simp; done), (((Ext.refl w).alloc _).alloc _).trans hx1⟩
    · have HB := Lib.hid (show fitB (s, k, lo, hi, n) (a, c, t) = false from by simp [fitB, e])
      have e1 : (a == k) = false := by simpa using e
      have e2 : (a != k) = true := by simpa using e
      clear hk hv e
      go_enter Tryd.func62, Tryd.ntmps62
      go_wp2_with (first
        | (go_at_call 12; refine (hV _).mono ?_; rintro e w1 ⟨rfl, hx1⟩; obtain ⟨hA, hB⟩ := boxes2 hx1; have fa1 := hA 1 _ rfl; have fa2 := hA 2 _ rfl; have fa3 := hA 3 _ rfl; have fa4 := hA 4 _ rfl; have fb0 := hB 0 _ rfl; have fb1 := hB 1 _ rfl; have fb2 := hB 2 _ rfl; clear hA hB)
        | (go_at_call 54; refine (within_any _ _ _ _).mono ?_; rintro e w2 ⟨rfl, rfl⟩))
      go_ret
      exact ⟨by rw [HB.out]; first | rfl | (simp; done), (((Ext.refl w).alloc _).alloc _).trans hx1⟩

set_option maxHeartbeats 4000000 in
theorem rholds_any (x : It) (v : Vl) (w : World) : Calls Tryd.prog 63 #[x.v, v.v] w fun e w' => e = .returned (.bool (fitB x v)) ∧ Ext w w' := by
  have hV := fun W => rvalue_any v W
  have hk := @valB_kind v
  obtain ⟨s, k, lo, hi, n⟩ := x
  obtain ⟨a, c, t⟩ := v
  show Calls _ _ #[.agg #[.string s, .int .i64 k, .int .i64 lo, .int .i64 hi, .int .i64 n], .agg #[.int .i64 a, .int .i64 c, .string t]] _ _
  unfold Vl.v at hV
  cases hv : valB (a, c, t) with
  | false =>
    have HB := Lib.hid (show fitB (s, k, lo, hi, n) (a, c, t) = false from by simp [fitB, hv])
    simp only [hv] at hV
    clear hk hv
    go_enter Tryd.func63, Tryd.ntmps63
    go_wp2_with (first
      | (go_at_call 13; refine (hV _).mono ?_; rintro e w1 ⟨rfl, hx1⟩; obtain ⟨hA, hB⟩ := boxes2 hx1; have fa1 := hA 1 _ rfl; have fa2 := hA 2 _ rfl; have fa3 := hA 3 _ rfl; have fa4 := hA 4 _ rfl; have fb0 := hB 0 _ rfl; have fb1 := hB 1 _ rfl; have fb2 := hB 2 _ rfl; clear hA hB)
      | (go_at_call 54; refine (within_any _ _ _ _).mono ?_; rintro e w2 ⟨rfl, rfl⟩))
    go_ret
    exact ⟨by rw [HB.out]; first | rfl | (simp; done), (((Ext.refl w).alloc _).alloc _).trans hx1⟩
  | true =>
    have hk := hk hv
    simp only [hv] at hV
    by_cases e : a = k
    · subst e
      rcases hk with hk | hk
      · simp only at hk
        subst hk
        by_cases q1 : lo ≤ c
        · by_cases q2 : c ≤ hi
          · have HB := Lib.hid (show fitB (s, 1, lo, hi, n) (1, c, t) = true from by simp [fitB, hv, withinB, q1, q2])
            clear hv
            go_enter Tryd.func63, Tryd.ntmps63
            go_wp2_with (first
              | (go_at_call 13; refine (hV _).mono ?_; rintro e w1 ⟨rfl, hx1⟩; obtain ⟨hA, hB⟩ := boxes2 hx1; have fa1 := hA 1 _ rfl; have fa2 := hA 2 _ rfl; have fa3 := hA 3 _ rfl; have fa4 := hA 4 _ rfl; have fb0 := hB 0 _ rfl; have fb1 := hB 1 _ rfl; have fb2 := hB 2 _ rfl; clear hA hB)
              | (go_at_call 54; refine (within_any _ _ _ _).mono ?_; rintro e w2 ⟨rfl, rfl⟩))
            go_ret
            exact ⟨by rw [HB.out]; first | rfl | (simp; done), (((Ext.refl w).alloc _).alloc _).trans hx1⟩
          · have HB := Lib.hid (show fitB (s, 1, lo, hi, n) (1, c, t) = false from by simp [fitB, hv, withinB, q1, q2])
            have q3 : decide (c ≤ hi) = false := decide_eq_false q2
            clear hv q2
            go_enter Tryd.func63, Tryd.ntmps63
            go_wp2_with (first
              | (go_at_call 13; refine (hV _).mono ?_; rintro e w1 ⟨rfl, hx1⟩; obtain ⟨hA, hB⟩ := boxes2 hx1; have fa1 := hA 1 _ rfl; have fa2 := hA 2 _ rfl; have fa3 := hA 3 _ rfl; have fa4 := hA 4 _ rfl; have fb0 := hB 0 _ rfl; have fb1 := hB 1 _ rfl; have fb2 := hB 2 _ rfl; clear hA hB)
              | (go_at_call 54; refine (within_any _ _ _ _).mono ?_; rintro e w2 ⟨rfl, rfl⟩))
            go_ret
            exact ⟨by rw [HB.out]; first | rfl | (simp; done), (((Ext.refl w).alloc _).alloc _).trans hx1⟩
        · have HB := Lib.hid (show fitB (s, 1, lo, hi, n) (1, c, t) = false from by simp [fitB, hv, withinB, q1])
          have q3 : decide (lo ≤ c) = false := decide_eq_false q1
          clear hv q1
          go_enter Tryd.func63, Tryd.ntmps63
          go_wp2_with (first
            | (go_at_call 13; refine (hV _).mono ?_; rintro e w1 ⟨rfl, hx1⟩; obtain ⟨hA, hB⟩ := boxes2 hx1; have fa1 := hA 1 _ rfl; have fa2 := hA 2 _ rfl; have fa3 := hA 3 _ rfl; have fa4 := hA 4 _ rfl; have fb0 := hB 0 _ rfl; have fb1 := hB 1 _ rfl; have fb2 := hB 2 _ rfl; clear hA hB)
            | (go_at_call 54; refine (within_any _ _ _ _).mono ?_; rintro e w2 ⟨rfl, rfl⟩))
          go_ret
          exact ⟨by rw [HB.out]; first | rfl | (simp; done), (((Ext.refl w).alloc _).alloc _).trans hx1⟩
      · simp only at hk
        subst hk
        by_cases q1 : (t.size : Int) ≤ n
        · have HB := Lib.hid (show fitB (s, 2, lo, hi, n) (2, c, t) = true from by simp [fitB, hv, q1])
          clear hv
          go_enter Tryd.func63, Tryd.ntmps63
          go_wp2_with (first
            | (go_at_call 13; refine (hV _).mono ?_; rintro e w1 ⟨rfl, hx1⟩; obtain ⟨hA, hB⟩ := boxes2 hx1; have fa1 := hA 1 _ rfl; have fa2 := hA 2 _ rfl; have fa3 := hA 3 _ rfl; have fa4 := hA 4 _ rfl; have fb0 := hB 0 _ rfl; have fb1 := hB 1 _ rfl; have fb2 := hB 2 _ rfl; clear hA hB)
            | (go_at_call 54; refine (within_any _ _ _ _).mono ?_; rintro e w2 ⟨rfl, rfl⟩))
          go_ret
          exact ⟨by rw [HB.out]; first | rfl | (simp; done), (((Ext.refl w).alloc _).alloc _).trans hx1⟩
        · have HB := Lib.hid (show fitB (s, 2, lo, hi, n) (2, c, t) = false from by simp [fitB, hv, q1])
          have q3 : decide ((t.size : Int) ≤ n) = false := decide_eq_false q1
          clear hv q1
          go_enter Tryd.func63, Tryd.ntmps63
          go_wp2_with (first
            | (go_at_call 13; refine (hV _).mono ?_; rintro e w1 ⟨rfl, hx1⟩; obtain ⟨hA, hB⟩ := boxes2 hx1; have fa1 := hA 1 _ rfl; have fa2 := hA 2 _ rfl; have fa3 := hA 3 _ rfl; have fa4 := hA 4 _ rfl; have fb0 := hB 0 _ rfl; have fb1 := hB 1 _ rfl; have fb2 := hB 2 _ rfl; clear hA hB)
            | (go_at_call 54; refine (within_any _ _ _ _).mono ?_; rintro e w2 ⟨rfl, rfl⟩))
          go_ret
          exact ⟨by rw [HB.out]; first | rfl | (simp; done), (((Ext.refl w).alloc _).alloc _).trans hx1⟩
    · have HB := Lib.hid (show fitB (s, k, lo, hi, n) (a, c, t) = false from by simp [fitB, e])
      have e1 : (a == k) = false := by simpa using e
      have e2 : (a != k) = true := by simpa using e
      clear hk hv e
      go_enter Tryd.func63, Tryd.ntmps63
      go_wp2_with (first
        | (go_at_call 13; refine (hV _).mono ?_; rintro e w1 ⟨rfl, hx1⟩; obtain ⟨hA, hB⟩ := boxes2 hx1; have fa1 := hA 1 _ rfl; have fa2 := hA 2 _ rfl; have fa3 := hA 3 _ rfl; have fa4 := hA 4 _ rfl; have fb0 := hB 0 _ rfl; have fb1 := hB 1 _ rfl; have fb2 := hB 2 _ rfl; clear hA hB)
        | (go_at_call 54; refine (within_any _ _ _ _).mono ?_; rintro e w2 ⟨rfl, rfl⟩))
      go_ret
      exact ⟨by rw [HB.out]; first | rfl | (simp; done), (((Ext.refl w).alloc _).alloc _).trans hx1⟩
end
section
open Go.RowKit
set_option linter.unusedVariables false
set_option linter.unusedSimpArgs false
set_option linter.unusedSectionVars false
set_option maxRecDepth 20000
attribute [local go_sem] Oper.semAt_some

def fitsB (l : List It) (r : List Vl) : Bool := itemsB l && (decide (l.length = r.length) && (List.range l.length).all (fun i => fitB (nthT l i) (nthV r i)))
def pairsB (l : List It) (r : List Vl) : Bool := decide (l.length = r.length) && (List.range l.length).all (fun i => fitB (nthT l i) (nthV r i))
theorem pairsB_len {l : List It} {r : List Vl} (h : ¬ l.length = r.length) : pairsB l r = false := by simp [pairsB, h]
theorem pairsB_yes {l : List It} {r : List Vl} (h : l.length = r.length) (ha : ∀ i, i < l.length → fitB (nthT l i) (nthV r i) = true) : pairsB l r = true := by
  simp only [pairsB, h, decide_true, Bool.true_and, List.all_eq_true, List.mem_range]
  intro i hi
  exact ha i (by omega)
theorem pairsB_no {l : List It} {r : List Vl} {k : Nat} (hk : k < l.length) (h : fitB (nthT l k) (nthV r k) = false) : pairsB l r = false := by
  unfold pairsB
  rw [show (List.range l.length).all (fun i => fitB (nthT l i) (nthV r i)) = false from by
    rw [List.all_eq_false]
    exact ⟨k, List.mem_range.2 hk, by simp [h]⟩, Bool.and_false]

set_option maxHeartbeats 4000000 in
theorem equalf_any (P Q : Option Addr) (cap cap2 : Nat) (l : List It) (r : List Vl) (w : World) (h : SlT w P cap l) (h2 : SlV w Q cap2 r) :
    Calls Tryd.prog 61 #[.slice P l.length cap, .slice Q r.length cap2, .func (.func 62) #[] #[]] w fun e w' => e = .returned (.bool (pairsB l r)) ∧ Ext w w' := by
  have hlen := h.len
  have hlen2 := h2.len
  by_cases hl : l.length = r.length
  · rw [← hl]
    have HL := Lib.hid hl
    clear hl
    go_enter Tryd.func61, Tryd.ntmps61
    go_wp2
    go_loopw [17, 7, 8, 9] (fun i _ _ _ wr => ∃ k : Nat, k ≤ l.length ∧ i = .int .i64 k ∧ (∀ j : Nat, j < k → fitB (nthT l j) (nthV r j) = true) ∧ Ext w wr) (fun i _ _ _ _ => l.length - (intOf i).toNat)
    case atStart => exact ⟨0, by omega, rfl, by intro j hj; omega, Ext.refl w⟩
    case round =>
      obtain ⟨k, hk, rfl, hall, hx⟩ := hrel
      by_cases hlt : k < l.length
      · obtain ⟨b, off, hP, g0, g1, g2, g3, g4⟩ := h.itemAt k hlt
        obtain ⟨b2, off2, hQ, q0, q1, q2⟩ := h2.valAt k (by have := HL.out; omega)
        subst hP
        subst hQ
        have g0 := hx.cell g0
        have g1 := hx.cell g1
        have g2 := hx.cell g2
        have g3 := hx.cell g3
        have g4 := hx.cell g4
        have q0 := hx.cell q0
        have q1 := hx.cell q1
        have q2 := hx.cell q2
        have hb2 : b2 < wr.heap.size := block_lt q0
        have c1 : (k : Int) < l.length := by omega
        have d1 : IntKind.i64.wrap ((k : Int) + 1) = (k : Int) + 1 := IntWalk.i64_in _ ⟨by omega, by omega⟩
        have hV := fun W => takes_any (nthT l k) (nthV r k) W
        unfold It.v Vl.v at hV
        cases hv : fitB (nthT l k) (nthV r k) with
        | false =>
          have Hn : Hid (pairsB l r = false) := Lib.hid (pairsB_no hlt hv)
          simp only [hv] at hV
          generalize nthT l k = x at *
          generalize nthV r k = y at *
          clear hall hv
          go_wp2_with (go_at_call 62; refine (hV _).mono ?_; rintro e w1 ⟨rfl, hx1⟩)
          go_ret
          exact ⟨by rw [Hn.out]; rfl, ((hx.alloc _).alloc _).trans hx1⟩
        | true =>
          have Hy : Hid (∀ j : Nat, j < k + 1 → fitB (nthT l j) (nthV r j) = true) := Lib.hid (fun j hj => by
            by_cases hjk : j = k
            · subst hjk; exact hv
            · exact hall j (by omega))
          simp only [hv] at hV
          generalize nthT l k = x at *
          generalize nthV r k = y at *
          clear hall hv
          go_wp2_with (go_at_call 62; refine (hV _).mono ?_; rintro e w1 ⟨rfl, hx1⟩)
          go_roundw
          case rel => exact ⟨k + 1, by omega, by go_num, Hy.out, ((hx.alloc _).alloc _).trans hx1⟩
          case measure => simp [intOf]; omega
      · obtain rfl : k = l.length := by omega
        have Hn := Lib.hid (pairsB_yes HL.out hall)
        clear hall
        go_wp2
        go_ret
        exact ⟨by rw [Hn.out]; rfl, hx⟩
  · have Hn := Lib.hid (pairsB_len hl)
    have hl1 : ((l.length : Int) == r.length) = false := by simp; omega
    have hl2 : ((l.length : Int) != r.length) = true := by simp; omega
    clear hl
    go_enter Tryd.func61, Tryd.ntmps61
    go_wp2
    go_ret
    exact ⟨by rw [Hn.out]; rfl, Ext.refl w⟩
theorem fits_any (P Q : Option Addr) (cap cap2 : Nat) (l : List It) (r : List Vl) (w : World) (h : SlT w P cap l) (h2 : SlV w Q cap2 r) :
    Calls Tryd.prog 22 #[.slice P l.length cap, .slice Q r.length cap2] w fun e w' => e = .returned (.bool (fitsB l r)) ∧ Ext w w' := by
  have hI := items_any P cap l w h
  have hE := fun W hx => equalf_any P Q cap cap2 l r W (h.ext hx) (h2.ext hx)
  have HB : Hid (fitsB l r = (itemsB l && pairsB l r)) := Lib.hid rfl
  cases hi : itemsB l with
  | false =>
    simp only [hi] at hI
    rw [hi] at HB
    go_enter Tryd.func22, Tryd.ntmps22
    go_wp2_with (go_at_call 20; refine hI.mono ?_; rintro e w1 ⟨rfl, hx1⟩)
    go_ret
    exact ⟨by rw [HB.out]; rfl, hx1⟩
  | true =>
    simp only [hi] at hI
    rw [hi] at HB
    generalize pairsB l r = z at *
    go_enter Tryd.func22, Tryd.ntmps22
    go_wp2_with (first
      | (go_at_call 20; refine hI.mono ?_; rintro e w1 ⟨rfl, hx1⟩)
      | (go_at_call 61; refine (hE _ hx1).mono ?_; rintro e w2 ⟨rfl, hx2⟩))
    go_ret
    exact ⟨by rw [HB.out]; rfl, hx1.trans hx2⟩
end
section
open Go.RowKit
set_option linter.unusedVariables false
set_option linter.unusedSimpArgs false
set_option linter.unusedSectionVars false
set_option maxRecDepth 20000
attribute [local go_sem] Oper.semAt_some

set_option maxHeartbeats 4000000 in
theorem rfits_any (P Q : Option Addr) (cap cap2 : Nat) (l : List It) (r : List Vl) (w : World) (h : SlT w P cap l) (h2 : SlV w Q cap2 r) :
    Calls Tryd.prog 23 #[.slice P l.length cap, .slice Q r.length cap2] w fun e w' => e = .returned (.bool (fitsB l r)) ∧ Ext w w' := by
  have hlen := h.len
  have hlen2 := h2.len
  have hI := ritems_any P cap l w h
  have HB : Hid (fitsB l r = (itemsB l && pairsB l r)) := Lib.hid rfl
  cases hi : itemsB l with
  | false =>
    simp only [hi] at hI
    rw [hi] at HB
    go_enter Tryd.func23, Tryd.ntmps23
    go_wp2_with (go_at_call 21; refine hI.mono ?_; rintro e w1 ⟨rfl, hx1⟩)
    go_ret
    exact ⟨by rw [HB.out]; rfl, hx1⟩
  | true =>
    simp only [hi] at hI
    rw [hi] at HB
    by_cases hl : l.length = r.length
    · rw [← hl]
      have HL := Lib.hid hl
      clear hl
      go_enter Tryd.func23, Tryd.ntmps23
      go_wp2_with (go_at_call 21; refine hI.mono ?_; rintro e w1 ⟨rfl, hx1⟩)
      go_loopw [5] (fun i wr => ∃ k : Nat, k ≤ l.length ∧ i = .int .i64 k ∧ (∀ j : Nat, j < k → fitB (nthT l j) (nthV r j) = true) ∧ Ext w wr) (fun i _ => l.length - (intOf i).toNat)
      case atStart => exact ⟨0, by omega, rfl, by intro j hj; omega, hx1⟩
      case round =>
        obtain ⟨k, hk, rfl, hall, hx⟩ := hrel
        by_cases hlt : k < l.length
        · obtain ⟨b, off, hP, g0, g1, g2, g3, g4⟩ := h.itemAt k hlt
          obtain ⟨b2, off2, hQ, q0, q1, q2⟩ := h2.valAt k (by have := HL.out; omega)
          subst hP
          subst hQ
          have g0 := hx.cell g0
          have g1 := hx.cell g1
          have g2 := hx.cell g2
          have g3 := hx.cell g3
          have g4 := hx.cell g4
          have q0 := hx.cell q0
          have q1 := hx.cell q1
          have q2 := hx.cell q2
          have c1 : (k : Int) < l.length := by omega
          have d1 : IntKind.i64.wrap ((k : Int) + 1) = (k : Int) + 1 := IntWalk.i64_in _ ⟨by omega, by omega⟩
          have hV := fun W => rholds_any (nthT l k) (nthV r k) W
          unfold It.v Vl.v at hV
          cases hv : fitB (nthT l k) (nthV r k) with
          | false =>
            have Hn : Hid (pairsB l r = false) := Lib.hid (pairsB_no hlt hv)
            simp only [hv] at hV
            generalize nthT l k = x at *
            generalize nthV r k = y at *
            clear hall hv
            go_wp2
            go_region_held3 (fun w' => w'.cell? ⟨b, off + k * 5, none⟩ = some (.string x.1) ∧ w'.cell? ⟨b, off + k * 5 + 1, none⟩ = some (.int .i64 x.2.1) ∧ w'.cell? ⟨b, off + k * 5 + 2, none⟩ = some (.int .i64 x.2.2.1) ∧ w'.cell? ⟨b, off + k * 5 + 3, none⟩ = some (.int .i64 x.2.2.2.1) ∧ w'.cell? ⟨b, off + k * 5 + 4, none⟩ = some (.int .i64 x.2.2.2.2) ∧ w'.cell? ⟨b2, off2 + k * 3, none⟩ = some (.int .i64 y.1) ∧ w'.cell? ⟨b2, off2 + k * 3 + 1, none⟩ = some (.int .i64 y.2.1) ∧ w'.cell? ⟨b2, off2 + k * 3 + 2, none⟩ = some (.string y.2.2)) (go_keep)
              (first
                | (go_at_call 63; refine (hV _).mono ?_; rintro e w2 ⟨rfl, hx2⟩; have y0 := hx2.cell g0; have y1 := hx2.cell g1; have y2 := hx2.cell g2; have y3 := hx2.cell g3; have y4 := hx2.cell g4; have y5 := hx2.cell q0; have y6 := hx2.cell q1; have y7 := hx2.cell q2)
                | fail)
            go_wp2
            go_ret
            exact ⟨by rw [HB.out, Hn.out]; rfl, hx.drew.trans hx2⟩
          | true =>
            have Hy : Hid (∀ j : Nat, j < k + 1 → fitB (nthT l j) (nthV r j) = true) := Lib.hid (fun j hj => by
              by_cases hjk : j = k
              · subst hjk; exact hv
              · exact hall j (by omega))
            simp only [hv] at hV
            generalize nthT l k = x at *
            generalize nthV r k = y at *
            clear hall hv
            go_wp2
            go_region_held3 (fun w' => w'.cell? ⟨b, off + k * 5, none⟩ = some (.string x.1) ∧ w'.cell? ⟨b, off + k * 5 + 1, none⟩ = some (.int .i64 x.2.1) ∧ w'.cell? ⟨b, off + k * 5 + 2, none⟩ = some (.int .i64 x.2.2.1) ∧ w'.cell? ⟨b, off + k * 5 + 3, none⟩ = some (.int .i64 x.2.2.2.1) ∧ w'.cell? ⟨b, off + k * 5 + 4, none⟩ = some (.int .i64 x.2.2.2.2) ∧ w'.cell? ⟨b2, off2 + k * 3, none⟩ = some (.int .i64 y.1) ∧ w'.cell? ⟨b2, off2 + k * 3 + 1, none⟩ = some (.int .i64 y.2.1) ∧ w'.cell? ⟨b2, off2 + k * 3 + 2, none⟩ = some (.string y.2.2)) (go_keep)
              (first
                | (go_at_call 63; refine (hV _).mono ?_; rintro e w2 ⟨rfl, hx2⟩; have y0 := hx2.cell g0; have y1 := hx2.cell g1; have y2 := hx2.cell g2; have y3 := hx2.cell g3; have y4 := hx2.cell g4; have y5 := hx2.cell q0; have y6 := hx2.cell q1; have y7 := hx2.cell q2)
                | fail)
            go_wp2
            go_roundw
            case rel => exact ⟨k + 1, by omega, by go_num, Hy.out, hx.drew.trans hx2⟩
            case measure => simp [intOf]; omega
        · obtain rfl : k = l.length := by omega
          have Hn := Lib.hid (pairsB_yes HL.out hall)
          clear hall
          go_wp2
          go_ret
          exact ⟨by rw [HB.out, Hn.out]; rfl, hx⟩
    · have Hn := Lib.hid (pairsB_len hl)
      have hl1 : ((r.length : Int) == l.length) = false := by simp; omega
      have hl2 : ((r.length : Int) != l.length) = true := by simp; omega
      clear hl
      go_enter Tryd.func23, Tryd.ntmps23
      go_wp2_with (go_at_call 21; refine hI.mono ?_; rintro e w1 ⟨rfl, hx1⟩)
      go_ret
      exact ⟨by rw [HB.out, Hn.out]; rfl, hx1⟩
end
section
open Go.RowKit
set_option linter.unusedVariables false
set_option linter.unusedSimpArgs false
set_option linter.unusedSectionVars false
set_option maxRecDepth 20000
attribute [local go_sem] Oper.semAt_some

/-- a slice of rows -/
abbrev Rw := Option Addr × Nat × List Vl
def Rw.cells (x : Rw) : List Value := [.slice x.1 x.2.2.length x.2.1]
def nthRw (l : List Rw) (i : Nat) : Rw := l.getD i (none, 0, [])
theorem nthRw_some {l : List Rw} {i : Nat} (h : i < l.length) : l[i]? = some (nthRw l i) := by simp [nthRw, List.getD_eq_getElem?_getD, h]
theorem rowAt {w : World} {P : Option Addr} {cap : Nat} {l : List Rw} (h : SlG Rw.cells w P cap l) (i : Nat) (hi : i < l.length) :
    ∃ b off, P = some ⟨b, off, none⟩ ∧ w.cell? ⟨b, off + i, none⟩ = some (.slice (nthRw l i).1 (nthRw l i).2.2.length (nthRw l i).2.1) := by
  obtain ⟨b, off, e, h1⟩ := h.at_ i _ (nthRw_some hi)
  refine ⟨b, off, e, ?_⟩
  have := h1 0 _ rfl
  simpa [Rw.cells] using this

set_option maxHeartbeats 4000000 in
theorem litems_any (P : Option Addr) (cap : Nat) (l : List It) (w : World) (h : SlT w P cap l) :
    Calls Tryd.prog 9 #[.slice P l.length cap] w fun e w' => (∃ r : Bool, e = .returned (.bool r)) ∧ w' = w := by
  have hlen := h.len
  go_enter Tryd.func9, Tryd.ntmps9
  go_wp2
  go_loopw [3] (fun i wr => ∃ k : Nat, k ≤ l.length ∧ i = .int .i64 k ∧ wr = w) (fun i _ => l.length - (intOf i).toNat)
  case atStart => exact ⟨0, by omega, rfl, rfl⟩
  case round =>
    obtain ⟨k, hk, rfl, rfl⟩ := hrel
    by_cases hlt : k < l.length
    · obtain ⟨b, off, hP, g0, g1, g2, g3, g4⟩ := h.itemAt k hlt
      subst hP
      have c1 : (k : Int) < l.length := by omega
      have d1 : IntKind.i64.wrap ((k : Int) + 1) = (k : Int) + 1 := IntWalk.i64_in _ ⟨by omega, by omega⟩
      by_cases h20 : (k : Int) < 20
      · by_cases h100 : (100 : Int) < ((nthT l k).1.size : Int)
        · generalize nthT l k = x at *
          go_wp2
          go_ret
          exact ⟨⟨_, rfl⟩, rfl⟩
        · have h100' : decide ((100 : Int) < ((nthT l k).1.size : Int)) = false := decide_eq_false h100
          generalize nthT l k = x at *
          clear h100
          go_wp2
          go_roundw
          case rel => exact ⟨k + 1, by omega, by go_num, by first | trivial | rfl⟩
          case measure => simp [intOf]; omega
      · have h20' : decide ((k : Int) < 20) = false := decide_eq_false h20
        clear h20
        by_cases hl : (l.length : Int) ≤ 20
        · go_wp2
          go_ret
          exact ⟨⟨_, rfl⟩, rfl⟩
        · have hl' : decide ((l.length : Int) ≤ 20) = false := decide_eq_false hl
          clear hl
          go_wp2
          go_ret
          exact ⟨⟨_, rfl⟩, rfl⟩
    · obtain rfl : k = l.length := by omega
      by_cases hl : (l.length : Int) ≤ 20
      · go_wp2
        go_ret
        exact ⟨⟨_, rfl⟩, rfl⟩
      · have hl' : decide ((l.length : Int) ≤ 20) = false := decide_eq_false hl
        clear hl
        go_wp2
        go_ret
        exact ⟨⟨_, rfl⟩, rfl⟩

set_option maxHeartbeats 4000000 in
theorem lrows_any (P : Option Addr) (cap : Nat) (L : List Rw) (w : World) (h : SlG Rw.cells w P cap L) (hr : ∀ x ∈ L, SlV w x.1 x.2.1 x.2.2) :
    Calls Tryd.prog 10 #[.slice P L.length cap] w fun e w' => (∃ r : Bool, e = .returned (.bool r)) ∧ w' = w := by
  have hlen := h.len
  go_enter Tryd.func10, Tryd.ntmps10
  go_wp2
  go_loopw [3, 4] (fun i _ wr => ∃ k : Nat, k ≤ L.length ∧ i = .int .i64 k ∧ wr = w) (fun i _ _ => L.length - (intOf i).toNat)
  case atStart => exact ⟨0, by omega, rfl, rfl⟩
  case round =>
    obtain ⟨k, hk, rfl, rfl⟩ := hrel
    by_cases hlt : k < L.length
    · obtain ⟨b, off, hP, g0⟩ := rowAt h k hlt
      have hx := hr _ (List.mem_of_getElem? (nthRw_some hlt))
      subst hP
      have c1 : (k : Int) < L.length := by omega
      have d1 : IntKind.i64.wrap ((k : Int) + 1) = (k : Int) + 1 := IntWalk.i64_in _ ⟨by omega, by omega⟩
      generalize nthRw L k = R at *
      obtain ⟨Q, c, l⟩ := R
      simp only at g0 hx
      have hlen2 := hx.len
      by_cases h20 : (20 : Int) < (l.length : Int)
      · go_wp2
        go_ret
        exact ⟨⟨_, rfl⟩, rfl⟩
      · have h20' : decide ((20 : Int) < (l.length : Int)) = false := decide_eq_false h20
        obtain ⟨wo, hwo⟩ : ∃ wo : World, wo = wr := ⟨_, rfl⟩
        go_wp2
        go_loopw [4] (fun j wr2 => ∃ m : Nat, m ≤ l.length ∧ j = .int .i64 m ∧ wr2 = wr) (fun j _ => l.length - (intOf j).toNat)
        case atStart => exact ⟨0, by omega, rfl, rfl⟩
        case round =>
          obtain ⟨m, hm, rfl, rfl⟩ := hrel
          by_cases hml : m < l.length
          · obtain ⟨b2, off2, hQ, q0, q1, q2⟩ := hx.valAt m hml
            subst hQ
            have c2 : (m : Int) < l.length := by omega
            have d2 : IntKind.i64.wrap ((m : Int) + 1) = (m : Int) + 1 := IntWalk.i64_in _ ⟨by omega, by omega⟩
            by_cases h200 : (200 : Int) < ((nthV l m).2.2.size : Int)
            · generalize nthV l m = y at *
              go_wp2
              go_ret
              exact ⟨⟨_, rfl⟩, rfl⟩
            · have h200' : decide ((200 : Int) < ((nthV l m).2.2.size : Int)) = false := decide_eq_false h200
              generalize nthV l m = y at *
              clear h200
              go_wp2
              go_roundw
              case rel => exact ⟨m + 1, by omega, by go_num, by first | trivial | rfl⟩
              case measure => simp [intOf]; omega
          · obtain rfl : m = l.length := by omega
            go_wp2
            go_roundw
            case rel => exact ⟨k + 1, by omega, by go_num, by first | trivial | rfl⟩
            case measure => simp [intOf]; omega
    · obtain rfl : k = L.length := by omega
      go_wp2
      go_ret
      exact ⟨⟨_, rfl⟩, rfl⟩
end
end Go.Proofs.YtepgpejdnlejnaaDoor
