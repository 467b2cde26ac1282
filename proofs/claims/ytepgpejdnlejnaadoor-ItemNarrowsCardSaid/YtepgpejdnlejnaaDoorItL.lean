/- Items: whether they are valid, of the program. -/
import Derived.Test.YtepgpejdnlejnaaDoorItK
import Derived.Test.YtepgpejdnlejnaaDoorMap
import Derived.Deep.LoopGhost
import Derived.StringKeys
namespace Go.Proofs.YtepgpejdnlejnaaDoor
open Go.RowKit Go.Maps
set_option linter.unusedVariables false
set_option linter.unusedSimpArgs false
set_option linter.unusedSectionVars false
set_option maxRecDepth 20000
attribute [local go_sem] Oper.semAt_some

section
variable {α : Type} [DecidableEq α] {mk : α → Lit} {P : Program} {k e : TypeId} {w : World} {b : Nat} {l : List α}
theorem MetG.look_yes (h : MetG mk P k e w b l) (K : Keyed P k) {t : TypeId} (ht : P.underlying t = some (.map k e)) (he : P.underlying e = some .bool) (hz : (zeroValue e).run P w = .ok (.bool false) w) {key : Value} {x : α} (hkey : keyOf P k key = some (mk x)) (hm : x ∈ l) :
    (Instr.lookup t (.map (some b)) key false).run P w = .ok (.bool true) w := by
  have := h.look K ht he hz hkey
  rwa [decide_eq_true hm] at this
theorem MetG.look_no (h : MetG mk P k e w b l) (K : Keyed P k) {t : TypeId} (ht : P.underlying t = some (.map k e)) (he : P.underlying e = some .bool) (hz : (zeroValue e).run P w = .ok (.bool false) w) {key : Value} {x : α} (hkey : keyOf P k key = some (mk x)) (hm : x ∉ l) :
    (Instr.lookup t (.map (some b)) key false).run P w = .ok (.bool false) w := by
  have := h.look K ht he hz hkey
  rwa [decide_eq_false hm] at this
end
def mkS : ByteArray → Lit := fun s => Lit.string s.data.toList
/-- block M of the heap is the set of the texts l -/
def MetS (w : World) (M : Nat) (l : List ByteArray) : Prop := MetG mkS Tryd.prog 9 4 w M l
theorem keyedS : Keyed Tryd.prog 9 := string_keyed Tryd.underlying9
theorem zeroB (w : World) : (zeroValue 4).run Tryd.prog w = .ok (.bool false) w := by kernel_rfl
theorem mkS_inj : ∀ x y : ByteArray, mkS x = mkS y → x = y := fun x y h => by
  unfold mkS at h
  injection h with h
  exact ByteArray.ext (Array.ext' h)
theorem keyOf_S (s : ByteArray) (hs : s.size ≤ 16) : keyOf Tryd.prog 9 (.string s) = some (mkS s) := Go.WideMaps.keyOf_string_mk Tryd.underlying9 (by unfold maxLen; omega)
theorem itemB_name {x : It} (h : itemB x = true) : x.1.size ≤ 16 := by
  unfold itemB at h
  rw [Bool.and_eq_true] at h
  exact (nameF_iff.1 h.1).1.2
theorem idxF_iff (l : List It) (k : Nat) (hk : k < l.length) : idxF l (nthT l k).1 = k ↔ (nthT l k).1 ∉ (l.take k).map (·.1) := by
  constructor
  · intro h hm
    obtain ⟨y, hy, he⟩ := List.mem_map.1 hm
    have key : ∀ (l : List It) (k : Nat) (s : ByteArray), (∃ y ∈ l.take k, y.1 = s) → idxF l s < k := by
      intro l
      induction l with
      | nil => intro k s h; obtain ⟨y, hy, _⟩ := h; simp at hy
      | cons x l ih =>
        intro k s h
        cases k with
        | zero => obtain ⟨y, hy, _⟩ := h; simp at hy
        | succ k =>
          simp only [idxF]
          split
          · omega
          · rename_i hx
            have := ih k s (by
              obtain ⟨y, hy, h2⟩ := h
              simp only [List.take_succ_cons, List.mem_cons] at hy
              rcases hy with rfl | hy
              · exact absurd h2 hx
              · exact ⟨y, hy, h2⟩)
            split <;> omega
    have := key l k _ ⟨y, hy, he⟩
    omega
  · intro h
    exact idxF_at l _ k _ (nthT_some hk) (fun j y hj hy e => h (List.mem_map.2 ⟨y, by
      rw [List.mem_take_iff_getElem]
      obtain ⟨hj2, e2⟩ := List.getElem?_eq_some_iff.1 hy
      exact ⟨j, by omega, by simpa using e2⟩, e⟩)) rfl
theorem names_succ (l : List It) (k : Nat) (hk : k < l.length) : (l.take (k + 1)).map (·.1) = (l.take k).map (·.1) ++ [(nthT l k).1] := by
  rw [List.take_add_one, nthT_some hk]
  simp

set_option maxHeartbeats 4000000 in
theorem items_any (P : Option Addr) (cap : Nat) (l : List It) (w : World) (h : SlT w P cap l) :
    Calls Tryd.prog 20 #[.slice P l.length cap] w fun e w' => e = .returned (.bool (itemsB l)) ∧ Ext w w' := by
  have hlen := h.len
  have hM0 : MetS (w.alloc (.map #[] 0)) w.heap.size [] := MetG.made w
  have hx0 := (Ext.refl w).alloc (.map #[] 0)
  have hmm := @run_makeMap Tryd.prog
  go_enter Tryd.func20, Tryd.ntmps20
  go_wp2
  clear hmm
  go_loopw [9, 5] (fun i _ wr => ∃ k : Nat, k ≤ l.length ∧ i = .int .i64 k ∧ (∀ j : Nat, j < k → goodT l j) ∧ MetS wr w.heap.size ((l.take k).map (·.1)) ∧ Ext w wr) (fun i _ _ => l.length - (intOf i).toNat)
  case atStart => exact ⟨0, by omega, rfl, by intro j hj; omega, hM0, hx0⟩
  case round =>
    obtain ⟨k, hk, rfl, hall, hM, hx⟩ := hrel
    by_cases hlt : k < l.length
    · obtain ⟨b, off, hP, g0, g1, g2, g3, g4⟩ := h.itemAt k hlt
      subst hP
      have g0 := hx.cell g0
      have g1 := hx.cell g1
      have g2 := hx.cell g2
      have g3 := hx.cell g3
      have g4 := hx.cell g4
      have c1 : (k : Int) < l.length := by omega
      have d1 : IntKind.i64.wrap ((k : Int) + 1) = (k : Int) + 1 := IntWalk.i64_in _ ⟨by omega, by omega⟩
      have hV := fun W => item_any (nthT l k) W
      unfold It.v at hV
      cases hv : itemB (nthT l k) with
      | false =>
        have Hn : Hid (itemsB l = false) := Lib.hid (by unfold itemsB; rw [knownB_no hlt (fun hg => by rw [hg.1] at hv; cases hv), Bool.and_false])
        simp only [hv] at hV
        generalize nthT l k = x at *
        clear hall hv hM hM0
        go_wp2_with (go_at_call 14; refine (hV _).mono ?_; rintro e w1 ⟨rfl, hx1⟩)
        go_ret
        exact ⟨by rw [Hn.out]; rfl, (hx.alloc _).trans hx1⟩
      | true =>
        simp only [hv] at hV
        have hkey := keyOf_S _ (itemB_name hv)
        by_cases hm : (nthT l k).1 ∈ (l.take k).map (·.1)
        · have Hn : Hid (itemsB l = false) := Lib.hid (by unfold itemsB; rw [knownB_no hlt (fun hg => (idxF_iff l k hlt).1 hg.2 hm), Bool.and_false])
          have HL := fun w1 (h1 : Ext wr w1) => MetG.look_yes (hM.ext h1) keyedS Tryd.underlying69 Tryd.underlying4 (zeroB w1) hkey hm
          generalize nthT l k = x at *
          clear hall hv hM0 hm
          go_wp2_with (first
            | (go_at_call 14; refine (hV _).mono ?_; rintro e w1 ⟨rfl, hx1⟩; have gf : w1.cell? ⟨wr.heap.size, 0, none⟩ = some (.string x.1) := hx1.cell ((World.cell?_alloc_mark _ _ _ _ 0).trans rfl); have hlk := HL _ (((Ext.refl wr).alloc _).trans hx1)))
          go_ret
          exact ⟨by rw [Hn.out]; rfl, (hx.alloc _).trans hx1⟩
        · have Hy : Hid (∀ j : Nat, j < k + 1 → goodT l j) := Lib.hid (fun j hj => by
            by_cases hjk : j = k
            · subst hjk; exact ⟨hv, (idxF_iff l j hlt).2 hm⟩
            · exact hall j (by omega))
          have Hs := Lib.hid (names_succ l k hlt)
          have hll : ((l.take k).map (·.1)).length ≤ 9223372036854775806 := by rw [List.length_map, List.length_take]; omega
          have HL := fun w1 (h1 : Ext wr w1) => MetG.look_no (hM.ext h1) keyedS Tryd.underlying69 Tryd.underlying4 (zeroB w1) hkey hm
          generalize nthT l k = x at *
          clear hall hv hM0 hm
          go_wp2_with (first
            | (go_at_call 14; refine (hV _).mono ?_; rintro e w1 ⟨rfl, hx1⟩; have gf : w1.cell? ⟨wr.heap.size, 0, none⟩ = some (.string x.1) := hx1.cell ((World.cell?_alloc_mark _ _ _ _ 0).trans rfl); have hlk := HL _ (((Ext.refl wr).alloc _).trans hx1); replace hM := hM.ext (((Ext.refl wr).alloc _).trans hx1); have hx2 := (hx.alloc _).trans hx1)
            | (at_mapUpdate; refine wpList_store_met rfl _ _ _ 69 rfl hM keyedS Tryd.underlying69 Tryd.underlying4 (by omega) mkS_inj rfl _ x.1 rfl rfl trivial hkey ?_; intro w2 hM2 hg2; rw [← Hs.out] at hM2))
          go_roundw
          case rel => exact ⟨k + 1, by omega, by go_num, Hy.out, hM2, Below.grown hx2 hg2 hx2.size (fun j hj => by injection hj with hj; omega)⟩
          case measure => simp [intOf]; omega
    · obtain rfl : k = l.length := by omega
      have Hn := Lib.hid (knownB_yes hall)
      clear hall hM hM0
      by_cases h1 : 1 ≤ l.length
      · have h1' : (1 : Int) ≤ l.length := by omega
        by_cases h8 : l.length ≤ 8
        · have h8' : (l.length : Int) ≤ 8 := by omega
          have HB : Hid (itemsB l = true) := Lib.hid (by unfold itemsB; rw [Hn.out, decide_eq_true h8, decide_eq_true (by omega)]; rfl)
          have hW := fun W => within_any l.length 1 8 W
          rw [show withinB l.length 1 8 = true from by simp [withinB]; omega] at hW
          go_wp2_with (go_at_call 54; refine (hW _).mono ?_; rintro e w1 ⟨rfl, rfl⟩)
          go_ret
          exact ⟨by rw [HB.out]; rfl, hx⟩
        · have HB : Hid (itemsB l = false) := Lib.hid (by unfold itemsB; rw [Hn.out, decide_eq_false h8, Bool.and_false])
          have hW := fun W => within_any l.length 1 8 W
          rw [show withinB l.length 1 8 = false from by simp [withinB]; omega] at hW
          clear h8
          go_wp2_with (go_at_call 54; refine (hW _).mono ?_; rintro e w1 ⟨rfl, rfl⟩)
          go_ret
          exact ⟨by rw [HB.out]; rfl, hx⟩
      · have HB : Hid (itemsB l = false) := Lib.hid (by unfold itemsB; rw [decide_eq_false (by omega), Bool.false_and])
        have hW := fun W => within_any l.length 1 8 W
        rw [show withinB l.length 1 8 = false from by simp [withinB]; omega] at hW
        clear h1
        go_wp2_with (go_at_call 54; refine (hW _).mono ?_; rintro e w1 ⟨rfl, rfl⟩)
        go_ret
        exact ⟨by rw [HB.out]; rfl, hx⟩
end Go.Proofs.YtepgpejdnlejnaaDoor
