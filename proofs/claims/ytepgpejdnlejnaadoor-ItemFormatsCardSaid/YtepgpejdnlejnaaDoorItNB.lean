/- Items: Narrow of both. -/
import Derived.Test.YtepgpejdnlejnaaDoorItNA
import Derived.Lib.SliceRun
import Derived.Laws.StructEq
import Derived.Laws.Tables
import Derived.Laws.Cover2
import Derived.KernelRfl
namespace Go.Proofs.YtepgpejdnlejnaaDoor
open Go.RowKit
set_option linter.unusedVariables false
set_option linter.unusedSimpArgs false
set_option linter.unusedSectionVars false
set_option maxRecDepth 20000
attribute [local go_sem] Oper.semAt_some

/-- items that a call gives -/
def ResT (w : World) (v : Value) (l : List It) : Prop := ∃ P cap, v = .slice P l.length cap ∧ SlT w P cap l
theorem ResT.nil (w : World) : ResT w (.slice none 0 0) [] := ⟨none, 0, rfl, SlG.nil _ _⟩
theorem ResT.ext {w w' : World} {v : Value} {l : List It} (h : ResT w v l) (hx : Ext w w') : ResT w' v l := by
  obtain ⟨P, cap, e, h⟩ := h
  exact ⟨P, cap, e, h.ext hx⟩

set_option maxHeartbeats 8000000 in
theorem narrow_any (P R : Option Addr) (cap cap3 : Nat) (l : List It) (names : List ByteArray) (w : World) (h : SlT w P cap l) (h3 : SlS w R cap3 names) (hn20 : names.length ≤ 20) :
    Calls Tryd.prog 31 #[.slice P l.length cap, .slice R names.length cap3] w fun e w' => (∃ v, e = .returned (.tuple #[v, .int .i64 (narrowF l names).2]) ∧ ResT w' v (narrowF l names).1) ∧ Ext w w' := by
  have hlen := h.len
  have hlen3 := h3.len
  have hF := items_any P cap l w h
  cases hf : itemsB l with
  | false =>
    have HB := Lib.hid (show narrowF l names = ([], 1) from by simp [narrowF, hf])
    rw [hf] at hF
    try rw [HB.out]
    go_enter Tryd.func31, Tryd.ntmps31
    go_wp2_with (go_at_call 20; refine hF.mono ?_; rintro e w1 ⟨rfl, hx1⟩)
    go_ret2
    exact ⟨⟨_, rfl, ResT.nil _⟩, hx1⟩
  | true =>
    have HFF := Lib.hid hf
    rw [hf] at hF
    clear hf
    go_enter Tryd.func31, Tryd.ntmps31
    go_wp2_with (go_at_call 20; refine hF.mono ?_; rintro e w1 ⟨rfl, hx1⟩)
    go_loopw [15, 6, 8, 9] (fun i v _ _ wr => ∃ k : Nat, k ≤ names.length ∧ i = .int .i64 k ∧ (∀ j, j < k → 0 ≤ idxF l (nthS names j)) ∧ OwnG It.cells 32 5 wr w.heap.size v (narrowed l (names.take k)) ∧ Ext w wr) (fun i _ _ _ _ => names.length - (intOf i).toNat)
    case atStart => exact ⟨0, by omega, rfl, by intro j hj; omega, OwnG.nil _ _ _ _ _, hx1⟩
    case round =>
      obtain ⟨k, hk, rfl, hall, hown, hx⟩ := hrel
      by_cases hlt : k < names.length
      · obtain ⟨b, off, hP, g0⟩ := nameAt' h3 k hlt
        subst hP
        have g0 := hx.cell g0
        have c1 : (k : Int) < names.length := by omega
        have d1 : IntKind.i64.wrap ((k : Int) + 1) = (k : Int) + 1 := IntWalk.i64_in _ ⟨by omega, by omega⟩
        by_cases hz : 0 ≤ idxF l (nthS names k)
        · obtain ⟨q, hq, hql⟩ := idxF_lt hz
          obtain ⟨b2, off2, hQ, q0, q1, q2, q3, q4⟩ := h.itemAt q hql
          subst hQ
          have q0 := hx.cell q0
          have q1 := hx.cell q1
          have q2 := hx.cell q2
          have q3 := hx.cell q3
          have q4 := hx.cell q4
          have c2 : (q : Int) < l.length := by omega
          have c3 : ¬ (q : Int) < 0 := by omega
          have Hs := Lib.hid (show narrowed l (names.take (k + 1)) = narrowed l (names.take k) ++ [nthT l q] from by rw [narrowed_take hlt, hq]; rfl)
          have HL := Lib.hid (show (narrowed l (names.take k)).length ≤ 20 from by rw [narrowed_len, List.length_take]; omega)
          have Hy : Hid (∀ j, j < k + 1 → 0 ≤ idxF l (nthS names j)) := Lib.hid (fun j hj => by
            by_cases hjk : j = k
            · subst hjk; exact hz
            · exact hall j (by omega))
          have HQ := Lib.hid hq
          have HO := Lib.hid hown
          generalize nthT l q = y at *
          generalize nthS names k = s at *
          clear hall hz hq hown
          go_wp2_with (first
            | (go_at_call 71; refine (place_any _ cap l _ _ (h.ext hx)).mono ?_; rintro e w2 ⟨rfl, hx2⟩; rw [HQ.out]; have q0 := hx2.cell q0; have q1 := hx2.cell q1; have q2 := hx2.cell q2; have q3 := hx2.cell q3; have q4 := hx2.cell q4)
            | (at_builtin; refine wpList_app_G _ elemT rfl _ _ rfl (base := w.heap.size) rfl (HO.out.ext (hx2.alloc _)) (m := [(y.1, y.2.1, y.2.2.1, y.2.2.2.1, y.2.2.2.2)]) rfl (SlG.one elemT.hk _ ?c1 ?c2) ?c3 ?c4 ?c5 ?c6 ?_))
          case c1 => rfl
          case c2 => rfl
          case c3 => intro e; cases e
          case c4 => have := HL.out; simp; omega
          case c5 => have := HL.out; simp; omega
          case c6 => have := (hx.trans hx2).size; simp; omega
          intro v' w3 hown' hbl
          go_wp2
          go_roundw
          case rel => exact ⟨k + 1, by omega, by go_num, Hy.out, by rw [Hs.out]; exact hown', below_ext ((hx.trans hx2).alloc _) hbl (Nat.le_refl _)⟩
          case measure => simp [intOf]; omega
        · have HB := Lib.hid (show narrowF l names = ([], 5) from by
            unfold narrowF
            rw [if_pos HFF.out, if_neg (fun hh => hz (hh _ (nthS_mem hlt)))])
          have hz1 : idxF l (nthS names k) < 0 := by omega
          generalize nthS names k = s at *
          clear hall hz
          go_wp2_with (first
            | (go_at_call 71; refine (place_any P cap l _ _ (h.ext hx)).mono ?_; rintro e w2 ⟨rfl, hx2⟩))
          go_ret2
          exact ⟨⟨_, by rw [HB.out]; rfl, by rw [HB.out]; exact ResT.nil _⟩, hx.trans hx2⟩
      · obtain rfl : k = names.length := by omega
        have hallm : ∀ n ∈ names, 0 ≤ idxF l n := fun n hn => by
          obtain ⟨j, hj, rfl⟩ := List.getElem_of_mem hn
          have := hall j hj
          rwa [show nthS names j = names[j] from by simp [nthS, hj]] at this
        have HP := Lib.hid (show narrowF l names = if uniqB (narrowed l names) = true then (if names.length = 0 then ([], 11) else (narrowed l names, 0)) else ([], 6) from by
          unfold narrowF
          rw [if_pos HFF.out, if_pos hallm])
        have HI := Lib.hid (fun h0 => narrowed_items HFF.out hallm h0)
        have HNL := Lib.hid (narrowed_len l names)
        rw [List.take_length] at hown
        clear hall hallm
        generalize narrowed l names = out at *
        obtain ⟨P9, cap9, hv9, s9⟩ := hown.slG elemT (by rw [HNL.out]; omega)
        subst hv9
        clear hown
        have o9 := HNL.out
        have e9 := s9.len
        cases out with
        | nil =>
          have HB := Lib.hid (show narrowF l names = ([], 11) from by rw [HP.out, if_pos (by rfl), if_pos (by rw [← HNL.out]; rfl)])
          clear o9
          go_wp2
          go_ret2
          exact ⟨⟨_, by rw [HB.out]; rfl, by rw [HB.out]; exact ResT.nil _⟩, hx⟩
        | cons y out =>
          have hi9 := HI.out (by rw [← o9]; simp)
          have HI9 := fun W hx => items_any P9 cap9 (y :: out) W (s9.ext hx)
          have HPL := Lib.hid (show (0 : Int) < (y :: out).length from by simp)
          have HE := Lib.hid (show narrowF l names = if uniqB (y :: out) = true then (y :: out, 0) else ([], 6) from by rw [HP.out]; simp [show ¬ names.length = 0 from by rw [← o9]; simp])
          rw [hi9] at HI9
          clear hi9 o9
          generalize hyo : (y :: out) = z at *
          clear hyo
          have hz0 := HPL.out
          have hz1 : ((z.length : Int) == 0) = false := beq_eq_false_iff_ne.2 (by omega)
          cases hu : uniqB z with
          | true =>
            rw [hu] at HI9
            have HB := Lib.hid (show narrowF l names = (z, 0) from by rw [HE.out, if_pos hu])
            clear hu
            go_wp2_with (first
              | (go_at_call 20; refine (HI9 _ (Ext.refl _)).mono ?_; rintro e w2 ⟨rfl, hx2⟩))
            go_ret2
            exact ⟨⟨_, by rw [HB.out]; rfl, by rw [HB.out]; exact ⟨_, _, rfl, s9.ext hx2⟩⟩, hx.trans hx2⟩
          | false =>
            rw [hu] at HI9
            have HB := Lib.hid (show narrowF l names = ([], 6) from by rw [HE.out, if_neg (by rw [hu]; simp)])
            clear hu
            go_wp2_with (first
              | (go_at_call 20; refine (HI9 _ (Ext.refl _)).mono ?_; rintro e w2 ⟨rfl, hx2⟩))
            go_ret2
            exact ⟨⟨_, by rw [HB.out]; rfl, by rw [HB.out]; exact ResT.nil _⟩, hx.trans hx2⟩

set_option maxHeartbeats 8000000 in
theorem rnarrow_any (P R : Option Addr) (cap cap3 : Nat) (l : List It) (names : List ByteArray) (w : World) (h : SlT w P cap l) (h3 : SlS w R cap3 names) (hn20 : names.length ≤ 20) :
    Calls Tryd.prog 32 #[.slice P l.length cap, .slice R names.length cap3] w fun e w' => (∃ v, e = .returned (.tuple #[v, .int .i64 (narrowF l names).2]) ∧ ResT w' v (narrowF l names).1) ∧ Ext w w' := by
  have hlen := h.len
  have hlen3 := h3.len
  have hF := ritems_any P cap l w h
  cases hf : itemsB l with
  | false =>
    have HB := Lib.hid (show narrowF l names = ([], 1) from by simp [narrowF, hf])
    rw [hf] at hF
    try rw [HB.out]
    go_enter Tryd.func32, Tryd.ntmps32
    go_wp2_with (go_at_call 21; refine hF.mono ?_; rintro e w1 ⟨rfl, hx1⟩)
    go_ret2
    exact ⟨⟨_, rfl, ResT.nil _⟩, hx1⟩
  | true =>
    have HFF := Lib.hid hf
    rw [hf] at hF
    clear hf
    go_enter Tryd.func32, Tryd.ntmps32
    go_wp2_with (go_at_call 21; refine hF.mono ?_; rintro e w1 ⟨rfl, hx1⟩)
    go_loopw [7, 6, 8] (fun i v _ wr => ∃ k : Nat, k ≤ names.length ∧ i = .int .i64 k ∧ (∀ j, j < k → 0 ≤ idxF l (nthS names j)) ∧ OwnG It.cells 32 5 wr w.heap.size v (narrowed l (names.take k)) ∧ Ext w wr) (fun i _ _ _ => names.length - (intOf i).toNat)
    case atStart => exact ⟨0, by omega, rfl, by intro j hj; omega, OwnG.nil _ _ _ _ _, hx1⟩
    case round =>
      obtain ⟨k, hk, rfl, hall, hown, hx⟩ := hrel
      by_cases hlt : k < names.length
      · obtain ⟨b, off, hP, g0⟩ := nameAt' h3 k hlt
        subst hP
        have g0 := hx.cell g0
        have c1 : (k : Int) < names.length := by omega
        have d1 : IntKind.i64.wrap ((k : Int) + 1) = (k : Int) + 1 := IntWalk.i64_in _ ⟨by omega, by omega⟩
        by_cases hz : 0 ≤ idxF l (nthS names k)
        · obtain ⟨q, hq, hql⟩ := idxF_lt hz
          obtain ⟨b2, off2, hQ, q0, q1, q2, q3, q4⟩ := h.itemAt q hql
          subst hQ
          have q0 := hx.cell q0
          have q1 := hx.cell q1
          have q2 := hx.cell q2
          have q3 := hx.cell q3
          have q4 := hx.cell q4
          have c2 : (q : Int) < l.length := by omega
          have c3 : ¬ (q : Int) < 0 := by omega
          have Hs := Lib.hid (show narrowed l (names.take (k + 1)) = narrowed l (names.take k) ++ [nthT l q] from by rw [narrowed_take hlt, hq]; rfl)
          have HL := Lib.hid (show (narrowed l (names.take k)).length ≤ 20 from by rw [narrowed_len, List.length_take]; omega)
          have Hy : Hid (∀ j, j < k + 1 → 0 ≤ idxF l (nthS names j)) := Lib.hid (fun j hj => by
            by_cases hjk : j = k
            · subst hjk; exact hz
            · exact hall j (by omega))
          have HQ := Lib.hid hq
          have HO := Lib.hid hown
          generalize nthT l q = y at *
          generalize nthS names k = s at *
          clear hall hz hq hown
          go_wp2_with (first
            | (go_at_call 72; refine (rindexX_any _ cap l _ _ (h.ext hx)).mono ?_; rintro e w2 ⟨rfl, hx2⟩; rw [HQ.out]; have q0 := hx2.cell q0; have q1 := hx2.cell q1; have q2 := hx2.cell q2; have q3 := hx2.cell q3; have q4 := hx2.cell q4)
            | (at_builtin; refine wpList_app_G _ elemT rfl _ _ rfl (base := w.heap.size) rfl (HO.out.ext (hx2.alloc _)) (m := [(y.1, y.2.1, y.2.2.1, y.2.2.2.1, y.2.2.2.2)]) rfl (SlG.one elemT.hk _ ?c1 ?c2) ?c3 ?c4 ?c5 ?c6 ?_))
          case c1 => rfl
          case c2 => rfl
          case c3 => intro e; cases e
          case c4 => have := HL.out; simp; omega
          case c5 => have := HL.out; simp; omega
          case c6 => have := (hx.trans hx2).size; simp; omega
          intro v' w3 hown' hbl
          go_wp2
          go_roundw
          case rel => exact ⟨k + 1, by omega, by go_num, Hy.out, by rw [Hs.out]; exact hown', below_ext ((hx.trans hx2).alloc _) hbl (Nat.le_refl _)⟩
          case measure => simp [intOf]; omega
        · have HB := Lib.hid (show narrowF l names = ([], 5) from by
            unfold narrowF
            rw [if_pos HFF.out, if_neg (fun hh => hz (hh _ (nthS_mem hlt)))])
          have hz1 : idxF l (nthS names k) < 0 := by omega
          generalize nthS names k = s at *
          clear hall hz
          go_wp2_with (first
            | (go_at_call 72; refine (rindexX_any P cap l _ _ (h.ext hx)).mono ?_; rintro e w2 ⟨rfl, hx2⟩))
          go_ret2
          exact ⟨⟨_, by rw [HB.out]; rfl, by rw [HB.out]; exact ResT.nil _⟩, hx.trans hx2⟩
      · obtain rfl : k = names.length := by omega
        have hallm : ∀ n ∈ names, 0 ≤ idxF l n := fun n hn => by
          obtain ⟨j, hj, rfl⟩ := List.getElem_of_mem hn
          have := hall j hj
          rwa [show nthS names j = names[j] from by simp [nthS, hj]] at this
        have HP := Lib.hid (show narrowF l names = if uniqB (narrowed l names) = true then (if names.length = 0 then ([], 11) else (narrowed l names, 0)) else ([], 6) from by
          unfold narrowF
          rw [if_pos HFF.out, if_pos hallm])
        have HI := Lib.hid (fun h0 => narrowed_items HFF.out hallm h0)
        have HNL := Lib.hid (narrowed_len l names)
        rw [List.take_length] at hown
        clear hall hallm
        generalize narrowed l names = out at *
        obtain ⟨P9, cap9, hv9, s9⟩ := hown.slG elemT (by rw [HNL.out]; omega)
        subst hv9
        clear hown
        have o9 := HNL.out
        have e9 := s9.len
        go_wp2
        go_loopw [9] (fun i wr => ∃ k : Nat, k ≤ out.length ∧ i = .int .i64 k ∧ (∀ j : Nat, j < k → idxF out (nthT out j).1 = j) ∧ Ext w wr ∧ SlT wr P9 cap9 out) (fun i _ => out.length - (intOf i).toNat)
        case atStart => exact ⟨0, by omega, rfl, by intro j hj; omega, hx, s9⟩
        case round =>
          clear s9 hx
          obtain ⟨k, hk, rfl, hall, hx, s9⟩ := hrel
          by_cases hlt : k < out.length
          · obtain ⟨b, off, hP, g0, g1, g2, g3, g4⟩ := s9.itemAt k hlt
            have c1 : (k : Int) < out.length := by omega
            have d1 : IntKind.i64.wrap ((k : Int) + 1) = (k : Int) + 1 := IntWalk.i64_in _ ⟨by omega, by omega⟩
            have hI := rindexX_any P9 cap9 out (nthT out k).1 wr s9
            have S9 := Lib.hid s9
            subst hP
            by_cases he : idxF out (nthT out k).1 = k
            · have Hy : Hid (∀ j : Nat, j < k + 1 → idxF out (nthT out j).1 = j) := Lib.hid (fun j hj => by
                by_cases hjk : j = k
                · subst hjk; exact he
                · exact hall j (by omega))
              rw [he] at hI
              generalize nthT out k = x at *
              clear hall he o9 s9
              go_wp2_with (go_at_call 72; refine hI.mono ?_; rintro e w2 ⟨rfl, hx2⟩)
              go_roundw
              case rel => exact ⟨k + 1, by omega, by go_num, Hy.out, hx.trans hx2, S9.out.ext hx2⟩
              case measure => simp [intOf]; omega
            · have HB := Lib.hid (show narrowF l names = ([], 6) from by rw [HP.out, if_neg (by rw [uniqB_no hlt he]; simp)])
              have hne : (idxF out (nthT out k).1 != (k : Int)) = true := by simpa using he
              generalize nthT out k = x at *
              generalize idxF out x.1 = z at *
              clear hall he o9 s9
              go_wp2_with (go_at_call 72; refine hI.mono ?_; rintro e w2 ⟨rfl, hx2⟩)
              go_ret2
              exact ⟨⟨_, by rw [HB.out]; rfl, by rw [HB.out]; exact ResT.nil _⟩, hx.trans hx2⟩
          · obtain rfl : k = out.length := by omega
            have hu := uniqB_yes hall
            have HE := Lib.hid (show narrowF l names = if names.length = 0 then ([], 11) else (out, 0) from by rw [HP.out, if_pos hu])
            clear hall hu
            by_cases h0 : out.length = 0
            · have h0' : ((out.length : Int) == 0) = true := by simp [h0]
              have HB := Lib.hid (show narrowF l names = ([], 11) from by rw [HE.out, if_pos (by omega)])
              clear o9 h0
              go_wp2
              go_ret2
              exact ⟨⟨_, by rw [HB.out]; rfl, by rw [HB.out]; exact ResT.nil _⟩, hx⟩
            · have h0' : ((out.length : Int) == 0) = false := beq_eq_false_iff_ne.2 (by omega)
              have HB := Lib.hid (show narrowF l names = (out, 0) from by rw [HE.out, if_neg (by omega)])
              clear o9 h0
              go_wp2
              go_ret2
              exact ⟨⟨_, by rw [HB.out]; rfl, by rw [HB.out]; exact ⟨_, _, rfl, s9⟩⟩, hx⟩
end Go.Proofs.YtepgpejdnlejnaaDoor
