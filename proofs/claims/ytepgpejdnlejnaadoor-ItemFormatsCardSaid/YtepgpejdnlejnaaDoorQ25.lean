/- ItNB; ItNC; ItNE (merged by group.py) -/
import Derived.Test.YtepgpejdnlejnaaDoorQ24
import Derived.Lib.SliceRun
import Derived.Laws.StructEq
import Derived.Laws.Tables
import Derived.Laws.Cover2
import Derived.KernelRfl
import Derived.Test.YtepgpejdnlejnaaDoorQ08
namespace Go.Proofs.YtepgpejdnlejnaaDoor
section
open Go.RowKit
set_option linter.unusedVariables false
set_option linter.unusedSimpArgs false
set_option linter.unusedSectionVars false
set_option maxRecDepth 20000
attribute [local go_sem] Oper.semAt_some

/-- items that a call gives -/
def ResT (w : World) (v : Value) (l : List It) : Prop := ∃ P cap, v = .slice P l.length cap ∧ SlT w P cap l
theorem ResT.nil (w : World) : ResT w (.slice none 0 0) [] := ⟨none, 0, rfl, SlG.nil _ _⟩
theorem ResT.ext {w w' : World} {v : Value} {l : List It} (h : ResT w v l) (hx : Ext w w') : ResT w' v l := by
  obtain ⟨P, cap, e, h⟩ := h
  exact ⟨P, cap, e, h.ext hx⟩

set_option maxHeartbeats 8000000 in
theorem narrow_any (P R : Option Addr) (cap cap3 : Nat) (l : List It) (names : List ByteArray) (w : World) (h : SlT w P cap l) (h3 : SlS w R cap3 names) (hn20 : names.length ≤ 20) :
    Calls Tryd.prog 31 #[.slice P l.length cap, .slice R names.length cap3] w fun e w' => (∃ v, e = .returned (.tuple #[v, .int .i64 (narrowF l names).2]) ∧ ResT w' v (narrowF l names).1) ∧ Ext w w' := by
  have hlen := h.len
  have hlen3 := h3.len
  have hF := items_any P cap l w h
  cases hf : itemsB l with
  | false =>
    have HB := Lib.hid (show narrowF l names = ([], 1) from by simp [narrowF, hf])
    rw [hf] at hF
    try rw [HB.out]
    go_enter Tryd.func31, Tryd.ntmps31
    go_wp2_with (go_at_call 20; refine hF.mono ?_; rintro e w1 ⟨rfl, hx1⟩)
    go_ret2
    exact ⟨⟨_, rfl, ResT.nil _⟩, hx1⟩
  | true =>
    have HFF := Lib.hid hf
    rw [hf] at hF
    clear hf
    go_enter Tryd.func31, Tryd.ntmps31
    go_wp2_with (go_at_call 20; refine hF.mono ?_; rintro e w1 ⟨rfl, hx1⟩)
    go_loopw [15, 6, 8, 9] (fun i v _ _ wr => ∃ k : Nat, k ≤ names.length ∧ i = .int .i64 k ∧ (∀ j, j < k → 0 ≤ idxF l (nthS names j)) ∧ OwnG It.cells 32 5 wr w.heap.size v (narrowed l (names.take k)) ∧ Ext w wr) (fun i _ _ _ _ => names.length - (intOf i).toNat)
    case atStart => exact ⟨0, by omega, rfl, by intro j hj; omega, OwnG.nil _ _ _ _ _, hx1⟩
    case round =>
      obtain ⟨k, hk, rfl, hall, hown, hx⟩ := hrel
      by_cases hlt : k < names.length
      · obtain ⟨b, off, hP, g0⟩ := nameAt' h3 k hlt
        subst hP
        have g0 := hx.cell g0
        have c1 : (k : Int) < names.length := by omega
        have d1 : IntKind.i64.wrap ((k : Int) + 1) = (k : Int) + 1 := IntWalk.i64_in _ ⟨by omega, by omega⟩
        by_cases hz : 0 ≤ idxF l (nthS names k)
        · obtain ⟨q, hq, hql⟩ := idxF_lt hz
          obtain ⟨b2, off2, hQ, q0, q1, q2, q3, q4⟩ := h.itemAt q hql
          subst hQ
          have q0 := hx.cell q0
          have q1 := hx.cell q1
          have q2 := hx.cell q2
          have q3 := hx.cell q3
          have q4 := hx.cell q4
          have c2 : (q : Int) < l.length := by omega
          have c3 : ¬ (q : Int) < 0 := by omega
          have Hs := Lib.hid (show narrowed l (names.take (k + 1)) = narrowed l (names.take k) ++ [nthT l q] from by rw [narrowed_take hlt, hq]; rfl)
          have HL := Lib.hid (show (narrowed l (names.take k)).length ≤ 20 from by rw [narrowed_len, List.length_take]; omega)
          have Hy : Hid (∀ j, j < k + 1 → 0 ≤ idxF l (nthS names j)) := Lib.hid (fun j hj => by
            by_cases hjk : j = k
            · subst hjk; exact hz
            · exact hall j (by omega))
          have HQ := Lib.hid hq
          have HO := Lib.hid hown
          generalize nthT l q = y at *
          generalize nthS names k = s at *
          clear hall hz hq hown
          go_wp2_with (first
            | (go_at_call 71; refine (place_any _ cap l _ _ (h.ext hx)).mono ?_; rintro e w2 ⟨rfl, hx2⟩; rw [HQ.out]; have q0 := hx2.cell q0; have q1 := hx2.cell q1; have q2 := hx2.cell q2; have q3 := hx2.cell q3; have q4 := hx2.cell q4)
            | (at_builtin; refine wpList_app_G _ elemT rfl _ _ rfl (base := w.heap.size) rfl (HO.out.ext (hx2.alloc _)) (m := [(y.1, y.2.1, y.2.2.1, y.2.2.2.1, y.2.2.2.2)]) rfl (SlG.one elemT.hk _ ?c1 ?c2) ?c3 ?c4 ?c5 ?c6 ?_))
          case c1 => rfl
          case c2 => rfl
          case c3 => intro e; cases e
          case c4 => have := HL.out; simp; omega
          case c5 => have := HL.out; simp; omega
          case c6 => have := (hx.trans hx2).size; simp; omega
          intro v' w3 hown' hbl
          go_wp2
          go_roundw
          case rel => exact ⟨k + 1, by omega, by go_num, Hy.out, by rw [Hs.out]; exact hown', below_ext ((hx.trans hx2).alloc _) hbl (Nat.le_refl _)⟩
          case measure => simp [intOf]; omega
        · have HB := Lib.hid (show narrowF l names = ([], 5) from by
            unfold narrowF
            rw [if_pos HFF.out, if_neg (fun hh => hz (hh _ (nthS_mem hlt)))])
          have hz1 : idxF l (nthS names k) < 0 := by omega
          generalize nthS names k = s at *
          clear hall hz
          go_wp2_with (first
            | (go_at_call 71; refine (place_any P cap l _ _ (h.ext hx)).mono ?_; rintro e w2 ⟨rfl, hx2⟩))
          go_ret2
          exact ⟨⟨_, by rw [HB.out]; rfl, by rw [HB.out]; exact ResT.nil _⟩, hx.trans hx2⟩
      · obtain rfl : k = names.length := by omega
        have hallm : ∀ n ∈ names, 0 ≤ idxF l n := fun n hn => by
          obtain ⟨j, hj, rfl⟩ := List.getElem_of_mem hn
          have := hall j hj
          rwa [show nthS names j = names[j] from by simp [nthS, hj]] at this
        have HP := Lib.hid (show narrowF l names = if uniqB (narrowed l names) = true then (if names.length = 0 then ([], 11) else (narrowed l names, 0)) else ([], 6) from by
          unfold narrowF
          rw [if_pos HFF.out, if_pos hallm])
        have HI := Lib.hid (fun h0 => narrowed_items HFF.out hallm h0)
        have HNL := Lib.hid (narrowed_len l names)
        rw [List.take_length] at hown
        clear hall hallm
        generalize narrowed l names = out at *
        obtain ⟨P9, cap9, hv9, s9⟩ := hown.slG elemT (by rw [HNL.out]; omega)
        subst hv9
        clear hown
        have o9 := HNL.out
        have e9 := s9.len
        cases out with
        | nil =>
          have HB := Lib.hid (show narrowF l names = ([], 11) from by rw [HP.out, if_pos (by rfl), if_pos (by rw [← HNL.out]; rfl)])
          clear o9
          go_wp2
          go_ret2
          exact ⟨⟨_, by rw [HB.out]; rfl, by rw [HB.out]; exact ResT.nil _⟩, hx⟩
        | cons y out =>
          have hi9 := HI.out (by rw [← o9]; simp)
          have HI9 := fun W hx => items_any P9 cap9 (y :: out) W (s9.ext hx)
          have HPL := Lib.hid (show (0 : Int) < (y :: out).length from by simp)
          have HE := Lib.hid (show narrowF l names = if uniqB (y :: out) = true then (y :: out, 0) else ([], 6) from by rw [HP.out]; simp [show ¬ names.length = 0 from by rw [← o9]; simp])
          rw [hi9] at HI9
          clear hi9 o9
          generalize hyo : (y :: out) = z at *
          clear hyo
          have hz0 := HPL.out
          have hz1 : ((z.length : Int) == 0) = false := beq_eq_false_iff_ne.2 (by omega)
          cases hu : uniqB z with
          | true =>
            rw [hu] at HI9
            have HB := Lib.hid (show narrowF l names = (z, 0) from by rw [HE.out, if_pos hu])
            clear hu
            go_wp2_with (first
              | (go_at_call 20; refine (HI9 _ (Ext.refl _)).mono ?_; rintro e w2 ⟨rfl, hx2⟩))
            go_ret2
            exact ⟨⟨_, by rw [HB.out]; rfl, by rw [HB.out]; exact ⟨_, _, rfl, s9.ext hx2⟩⟩, hx.trans hx2⟩
          | false =>
            rw [hu] at HI9
            have HB := Lib.hid (show narrowF l names = ([], 6) from by rw [HE.out, if_neg (by rw [hu]; simp)])
            clear hu
            go_wp2_with (first
              | (go_at_call 20; refine (HI9 _ (Ext.refl _)).mono ?_; rintro e w2 ⟨rfl, hx2⟩))
            go_ret2
            exact ⟨⟨_, by rw [HB.out]; rfl, by rw [HB.out]; exact ResT.nil _⟩, hx.trans hx2⟩

set_option maxHeartbeats 8000000 in
theorem rnarrow_any (P R : Option Addr) (cap cap3 : Nat) (l : List It) (names : List ByteArray) (w : World) (h : SlT w P cap l) (h3 : SlS w R cap3 names) (hn20 : names.length ≤ 20) :
    Calls Tryd.prog 32 #[.slice P l.length cap, .slice R names.length cap3] w fun e w' => (∃ v, e = .returned (.tuple #[v, .int .i64 (narrowF l names).2]) ∧ ResT w' v (narrowF l names).1) ∧ Ext w w' := by
  have hlen := h.len
  have hlen3 := h3.len
  have hF := ritems_any P cap l w h
  cases hf : itemsB l with
  | false =>
    have HB := Lib.hid (show narrowF l names = ([], 1) from by simp [narrowF, hf])
    rw [hf] at hF
    try rw [HB.out]
    go_enter Tryd.func32, Tryd.ntmps32
    go_wp2_with (go_at_call 21; refine hF.mono ?_; rintro e w1 ⟨rfl, hx1⟩)
    go_ret2
    exact ⟨⟨_, rfl, ResT.nil _⟩, hx1⟩
  | true =>
    have HFF := Lib.hid hf
    rw [hf] at hF
    clear hf
    go_enter Tryd.func32, Tryd.ntmps32
    go_wp2_with (go_at_call 21; refine hF.mono ?_; rintro e w1 ⟨rfl, hx1⟩)
    go_loopw [7, 6, 8] (fun i v _ wr => ∃ k : Nat, k ≤ names.length ∧ i = .int .i64 k ∧ (∀ j, j < k → 0 ≤ idxF l (nthS names j)) ∧ OwnG It.cells 32 5 wr w.heap.size v (narrowed l (names.take k)) ∧ Ext w wr) (fun i _ _ _ => names.length - (intOf i).toNat)
    case atStart => exact ⟨0, by omega, rfl, by intro j hj; omega, OwnG.nil _ _ _ _ _, hx1⟩
    case round =>
      obtain ⟨k, hk, rfl, hall, hown, hx⟩ := hrel
      by_cases hlt : k < names.length
      · obtain ⟨b, off, hP, g0⟩ := nameAt' h3 k hlt
        subst hP
        have g0 := hx.cell g0
        have c1 : (k : Int) < names.length := by omega
        have d1 : IntKind.i64.wrap ((k : Int) + 1) = (k : Int) + 1 := IntWalk.i64_in _ ⟨by omega, by omega⟩
        by_cases hz : 0 ≤ idxF l (nthS names k)
        · obtain ⟨q, hq, hql⟩ := idxF_lt hz
          obtain ⟨b2, off2, hQ, q0, q1, q2, q3, q4⟩ := h.itemAt q hql
          subst hQ
          have q0 := hx.cell q0
          have q1 := hx.cell q1
          have q2 := hx.cell q2
          have q3 := hx.cell q3
          have q4 := hx.cell q4
          have c2 : (q : Int) < l.length := by omega
          have c3 : ¬ (q : Int) < 0 := by omega
          have Hs := Lib.hid (show narrowed l (names.take (k + 1)) = narrowed l (names.take k) ++ [nthT l q] from by rw [narrowed_take hlt, hq]; rfl)
          have HL := Lib.hid (show (narrowed l (names.take k)).length ≤ 20 from by rw [narrowed_len, List.length_take]; omega)
          have Hy : Hid (∀ j, j < k + 1 → 0 ≤ idxF l (nthS names j)) := Lib.hid (fun j hj => by
            by_cases hjk : j = k
            · subst hjk; exact hz
            · exact hall j (by omega))
          have HQ := Lib.hid hq
          have HO := Lib.hid hown
          generalize nthT l q = y at *
          generalize nthS names k = s at *
          clear hall hz hq hown
          go_wp2_with (first
            | (go_at_call 72; refine (rindexX_any _ cap l _ _ (h.ext hx)).mono ?_; rintro e w2 ⟨rfl, hx2⟩; rw [HQ.out]; have q0 := hx2.cell q0; have q1 := hx2.cell q1; have q2 := hx2.cell q2; have q3 := hx2.cell q3; have q4 := hx2.cell q4)
            | (at_builtin; refine wpList_app_G _ elemT rfl _ _ rfl (base := w.heap.size) rfl (HO.out.ext (hx2.alloc _)) (m := [(y.1, y.2.1, y.2.2.1, y.2.2.2.1, y.2.2.2.2)]) rfl (SlG.one elemT.hk _ ?c1 ?c2) ?c3 ?c4 ?c5 ?c6 ?_))
          case c1 => rfl
          case c2 => rfl
          case c3 => intro e; cases e
          case c4 => have := HL.out; simp; omega
          case c5 => have := HL.out; simp; omega
          case c6 => have := (hx.trans hx2).size; simp; omega
          intro v' w3 hown' hbl
          go_wp2
          go_roundw
          case rel => exact ⟨k + 1, by omega, by go_num, Hy.out, by rw [Hs.out]; exact hown', below_ext ((hx.trans hx2).alloc _) hbl (Nat.le_refl _)⟩
          case measure => simp [intOf]; omega
        · have HB := Lib.hid (show narrowF l names = ([], 5) from by
            unfold narrowF
            rw [if_pos HFF.out, if_neg (fun hh => hz (hh _ (nthS_mem hlt)))])
          have hz1 : idxF l (nthS names k) < 0 := by omega
          generalize nthS names k = s at *
          clear hall hz
          go_wp2_with (first
            | (go_at_call 72; refine (rindexX_any P cap l _ _ (h.ext hx)).mono ?_; rintro e w2 ⟨rfl, hx2⟩))
          go_ret2
          exact ⟨⟨_, by rw [HB.out]; rfl, by rw [HB.out]; exact ResT.nil _⟩, hx.trans hx2⟩
      · obtain rfl : k = names.length := by omega
        have hallm : ∀ n ∈ names, 0 ≤ idxF l n := fun n hn => by
          obtain ⟨j, hj, rfl⟩ := List.getElem_of_mem hn
          have := hall j hj
          rwa [show nthS names j = names[j] from by simp [nthS, hj]] at this
        have HP := Lib.hid (show narrowF l names = if uniqB (narrowed l names) = true then (if names.length = 0 then ([], 11) else (narrowed l names, 0)) else ([], 6) from by
          unfold narrowF
          rw [if_pos HFF.out, if_pos hallm])
        have HI := Lib.hid (fun h0 => narrowed_items HFF.out hallm h0)
        have HNL := Lib.hid (narrowed_len l names)
        rw [List.take_length] at hown
        clear hall hallm
        generalize narrowed l names = out at *
        obtain ⟨P9, cap9, hv9, s9⟩ := hown.slG elemT (by rw [HNL.out]; omega)
        subst hv9
        clear hown
        have o9 := HNL.out
        have e9 := s9.len
        go_wp2
        go_loopw [9] (fun i wr => ∃ k : Nat, k ≤ out.length ∧ i = .int .i64 k ∧ (∀ j : Nat, j < k → idxF out (nthT out j).1 = j) ∧ Ext w wr ∧ SlT wr P9 cap9 out) (fun i _ => out.length - (intOf i).toNat)
        case atStart => exact ⟨0, by omega, rfl, by intro j hj; omega, hx, s9⟩
        case round =>
          clear s9 hx
          obtain ⟨k, hk, rfl, hall, hx, s9⟩ := hrel
          by_cases hlt : k < out.length
          · obtain ⟨b, off, hP, g0, g1, g2, g3, g4⟩ := s9.itemAt k hlt
            have c1 : (k : Int) < out.length := by omega
            have d1 : IntKind.i64.wrap ((k : Int) + 1) = (k : Int) + 1 := IntWalk.i64_in _ ⟨by omega, by omega⟩
            have hI := rindexX_any P9 cap9 out (nthT out k).1 wr s9
            have S9 := Lib.hid s9
            subst hP
            by_cases he : idxF out (nthT out k).1 = k
            · have Hy : Hid (∀ j : Nat, j < k + 1 → idxF out (nthT out j).1 = j) := Lib.hid (fun j hj => by
                by_cases hjk : j = k
                · subst hjk; exact he
                · exact hall j (by omega))
              rw [he] at hI
              generalize nthT out k = x at *
              clear hall he o9 s9
              go_wp2_with (go_at_call 72; refine hI.mono ?_; rintro e w2 ⟨rfl, hx2⟩)
              go_roundw
              case rel => exact ⟨k + 1, by omega, by go_num, Hy.out, hx.trans hx2, S9.out.ext hx2⟩
              case measure => simp [intOf]; omega
            · have HB := Lib.hid (show narrowF l names = ([], 6) from by rw [HP.out, if_neg (by rw [uniqB_no hlt he]; simp)])
              have hne : (idxF out (nthT out k).1 != (k : Int)) = true := by simpa using he
              generalize nthT out k = x at *
              generalize idxF out x.1 = z at *
              clear hall he o9 s9
              go_wp2_with (go_at_call 72; refine hI.mono ?_; rintro e w2 ⟨rfl, hx2⟩)
              go_ret2
              exact ⟨⟨_, by rw [HB.out]; rfl, by rw [HB.out]; exact ResT.nil _⟩, hx.trans hx2⟩
          · obtain rfl : k = out.length := by omega
            have hu := uniqB_yes hall
            have HE := Lib.hid (show narrowF l names = if names.length = 0 then ([], 11) else (out, 0) from by rw [HP.out, if_pos hu])
            clear hall hu
            by_cases h0 : out.length = 0
            · have h0' : ((out.length : Int) == 0) = true := by simp [h0]
              have HB := Lib.hid (show narrowF l names = ([], 11) from by rw [HE.out, if_pos (by omega)])
              clear o9 h0
              go_wp2
              go_ret2
              exact ⟨⟨_, by rw [HB.out]; rfl, by rw [HB.out]; exact ResT.nil _⟩, hx⟩
            · have h0' : ((out.length : Int) == 0) = false := beq_eq_false_iff_ne.2 (by omega)
              have HB := Lib.hid (show narrowF l names = (out, 0) from by rw [HE.out, if_neg (by omega)])
              clear o9 h0
              go_wp2
              go_ret2
              exact ⟨⟨_, by rw [HB.out]; rfl, by rw [HB.out]; exact ⟨_, _, rfl, s9⟩⟩, hx⟩
end
section
open Go.RowKit
set_option linter.unusedVariables false
set_option linter.unusedSimpArgs false
set_option linter.unusedSectionVars false
set_option maxRecDepth 20000
attribute [local go_sem] Oper.semAt_some


set_option maxHeartbeats 8000000 in
theorem rename_any (P R : Option Addr) (cap cap3 : Nat) (l : List It) (names : List ByteArray) (w : World) (h : SlT w P cap l) (h3 : SlS w R cap3 names) :
    Calls Tryd.prog 35 #[.slice P l.length cap, .slice R names.length cap3] w fun e w' => (∃ v, e = .returned (.tuple #[v, .int .i64 (renameF l names).2]) ∧ ResT w' v (renameF l names).1) ∧ Ext w w' := by
  have hlen := h.len
  have hlen3 := h3.len
  have hF := items_any P cap l w h
  cases hf : itemsB l with
  | false =>
    have HB := Lib.hid (show renameF l names = ([], 1) from by simp [renameF, hf])
    rw [hf] at hF
    try rw [HB.out]
    go_enter Tryd.func35, Tryd.ntmps35
    go_wp2_with (go_at_call 20; refine hF.mono ?_; rintro e w1 ⟨rfl, hx1⟩)
    go_ret2
    exact ⟨⟨_, rfl, ResT.nil _⟩, hx1⟩
  | true =>
    have HFF := Lib.hid hf
    have HP0 := Lib.hid (items_pos hf)
    have hl8 := items_le8 hf
    rw [hf] at hF
    clear hf
    by_cases hn : names.length = l.length
    · have hC := fun W hx => clonet_any P cap l W (h.ext hx) (by omega) (by
        intro e
        obtain ⟨b, off, e2, _⟩ := h.at_ 0 _ (nthT_some HP0.out)
        rw [e] at e2; cases e2)
      have hn' : ((names.length : Int) != l.length) = false := by simp [hn]
      have HN := Lib.hid hn
      clear hn
      go_enter Tryd.func35, Tryd.ntmps35
      go_wp2_with (first
        | (go_at_call 20; refine hF.mono ?_; rintro e w1 ⟨rfl, hx1⟩)
        | (go_at_call 73; refine (hC _ hx1).mono ?_; rintro e w2 ⟨⟨u, rfl, hown⟩, hx2⟩))
      obtain ⟨g, c5, rfl, hg1, hg2, hg3, hg4⟩ := hown.tight HP0.out
      go_loopw [21, 7, 8] (fun i _ _ wr => ∃ k : Nat, k ≤ names.length ∧ i = .int .i64 k ∧ (∀ j, j < k → nameF (nthS names j) = true) ∧ OwnG It.cells 32 5 wr w1.heap.size (.slice (some ⟨g, 0, none⟩) l.length c5) (renK l names k) ∧ Ext w wr) (fun i _ _ _ => names.length - (intOf i).toNat)
      case atStart => exact ⟨0, by omega, rfl, by intro j hj; omega, hown, hx1.trans hx2⟩
      case round =>
        clear hown
        obtain ⟨k, hk, rfl, hall, hown, hx⟩ := hrel
        by_cases hlt : k < names.length
        · obtain ⟨b, off, hP, g0⟩ := nameAt' h3 k hlt
          subst hP
          have g0 := hx.cell g0
          have c1 : (k : Int) < names.length := by omega
          have c2 : (k : Int) < l.length := by have := HN.out; omega
          have d1 : IntKind.i64.wrap ((k : Int) + 1) = (k : Int) + 1 := IntWalk.i64_in _ ⟨by omega, by omega⟩
          have hkl : k < l.length := by have := HN.out; omega
          have hat : (renK l names k)[k]? = some (nthT l k) := by
            rw [nthT_some (by rw [renK_len]; exact hkl), renK_at l names k hkl, if_neg (by omega)]
          have m0 := hown.cell elemT.hk (renK_len l names k).symm k _ hat 0 _ rfl
          have n0 := hown.frozen (renK_len l names k).symm (k * 5)
          simp only [Nat.add_zero] at m0
          have hT := fun W => name_any (nthS names k) W
          have HA := Lib.hid hat
          have HO := Lib.hid hown
          have HR := Lib.hid (show renK l names (k + 1) = (renK l names k).set k (nthS names k, (nthT l k).2) from rfl)
          cases hv : nameF (nthS names k) with
          | true =>
            have Hy : Hid (∀ j, j < k + 1 → nameF (nthS names j) = true) := Lib.hid (fun j hj => by
              by_cases hjk : j = k
              · subst hjk; exact hv
              · exact hall j (by omega))
            simp only [hv] at hT
            generalize nthS names k = s at *
            generalize nthT l k = x at *
            clear hall hv hat hown
            go_wp2_with (first
              | (go_at_call 16; refine (hT _).mono ?_; rintro e w3 ⟨rfl, rfl⟩))
            go_roundw
            case rel =>
              refine ⟨k + 1, by omega, by go_num, Hy.out, ?_, hx.setCell (by have := hx1.size; simp; omega) _⟩
              rw [HR.out]
              exact OwnG.setCell elemT.hk HO.out (renK_len l names k).symm k 0 x (s, x.2) (.string s) HA.out rfl (by omega)
            case measure => simp [intOf]; omega
          | false =>
            have HB := Lib.hid (show renameF l names = ([], 1) from by
              unfold renameF
              rw [if_pos HFF.out, if_pos HN.out, if_neg (fun hh => by have := hh _ (nthS_mem hlt); rw [hv] at this; cases this)])
            simp only [hv] at hT
            generalize nthS names k = s at *
            clear hall hv hat hown
            go_wp2_with (first
              | (go_at_call 16; refine (hT _).mono ?_; rintro e w3 ⟨rfl, rfl⟩))
            go_ret2
            exact ⟨⟨_, by rw [HB.out]; rfl, by rw [HB.out]; exact ResT.nil _⟩, hx⟩
        · obtain rfl : k = names.length := by omega
          have hallm : ∀ n ∈ names, nameF n = true := fun n hn => by
            obtain ⟨j, hj, rfl⟩ := List.getElem_of_mem hn
            have := hall j hj
            rwa [show nthS names j = names[j] from by simp [nthS, hj]] at this
          rw [HN.out] at hown
          have HP := Lib.hid (show renameF l names = if uniqB (renK l names l.length) = true then (renK l names l.length, 0) else ([], 6) from by
            unfold renameF
            rw [if_pos HFF.out, if_pos HN.out, if_pos hallm])
          have HI := Lib.hid (renamed_items HFF.out HN.out hallm)
          have HNL := Lib.hid (renK_len l names l.length)
          clear hall hallm
          generalize renK l names l.length = out at *
          obtain ⟨P9, cap9, hv9, s9⟩ := hown.slG elemT (by rw [HNL.out]; omega)
          rw [HNL.out] at hv9
          injection hv9 with e1 e2 e3
          subst e1 e3
          clear hown
          have HI9 := fun W hx => items_any (some ⟨g, 0, none⟩) c5 out W (s9.ext hx)
          rw [HI.out, HNL.out] at HI9
          cases hu : uniqB out with
          | true =>
            rw [hu] at HI9
            have HB := Lib.hid (show renameF l names = (out, 0) from by rw [HP.out, if_pos hu])
            clear hu
            go_wp2_with (first
              | (go_at_call 20; refine (HI9 _ (Ext.refl _)).mono ?_; rintro e w4 ⟨rfl, hx4⟩))
            go_ret2
            exact ⟨⟨.slice (some ⟨g, 0, none⟩) l.length c5, by rw [HB.out]; rfl, by rw [HB.out]; exact ⟨_, _, by rw [HNL.out], s9.ext hx4⟩⟩, hx.trans hx4⟩
          | false =>
            rw [hu] at HI9
            have HB := Lib.hid (show renameF l names = ([], 6) from by rw [HP.out, if_neg (by rw [hu]; simp)])
            clear hu
            go_wp2_with (first
              | (go_at_call 20; refine (HI9 _ (Ext.refl _)).mono ?_; rintro e w4 ⟨rfl, hx4⟩))
            go_ret2
            exact ⟨⟨_, by rw [HB.out]; rfl, by rw [HB.out]; exact ResT.nil _⟩, hx.trans hx4⟩
    · have HB := Lib.hid (show renameF l names = ([], 11) from by
        unfold renameF
        rw [if_pos HFF.out, if_neg hn])
      have hn' : ((names.length : Int) != l.length) = true := by simp; omega
      have hn'' : ((l.length : Int) == names.length) = false := by simp; omega
      clear hn
      try rw [HB.out]
      go_enter Tryd.func35, Tryd.ntmps35
      go_wp2_with (go_at_call 20; refine hF.mono ?_; rintro e w1 ⟨rfl, hx1⟩)
      go_ret2
      exact ⟨⟨_, rfl, ResT.nil _⟩, hx1⟩

set_option maxHeartbeats 8000000 in
theorem rrename_any (P R : Option Addr) (cap cap3 : Nat) (l : List It) (names : List ByteArray) (w : World) (h : SlT w P cap l) (h3 : SlS w R cap3 names) :
    Calls Tryd.prog 36 #[.slice P l.length cap, .slice R names.length cap3] w fun e w' => (∃ v, e = .returned (.tuple #[v, .int .i64 (renameF l names).2]) ∧ ResT w' v (renameF l names).1) ∧ Ext w w' := by
  have hlen := h.len
  have hlen3 := h3.len
  have hF := ritems_any P cap l w h
  cases hf : itemsB l with
  | false =>
    have HB := Lib.hid (show renameF l names = ([], 1) from by simp [renameF, hf])
    rw [hf] at hF
    try rw [HB.out]
    go_enter Tryd.func36, Tryd.ntmps36
    go_wp2_with (go_at_call 21; refine hF.mono ?_; rintro e w1 ⟨rfl, hx1⟩)
    go_ret2
    exact ⟨⟨_, rfl, ResT.nil _⟩, hx1⟩
  | true =>
    have HFF := Lib.hid hf
    have HP0 := Lib.hid (items_pos hf)
    have hl8 := items_le8 hf
    rw [hf] at hF
    clear hf
    by_cases hn : names.length = l.length
    · have hC := fun W hx => clonet_any P cap l W (h.ext hx) (by omega) (by
        intro e
        obtain ⟨b, off, e2, _⟩ := h.at_ 0 _ (nthT_some HP0.out)
        rw [e] at e2; cases e2)
      have hn' : ((names.length : Int) != l.length) = false := by simp [hn]
      have HN := Lib.hid hn
      clear hn
      go_enter Tryd.func36, Tryd.ntmps36
      go_wp2_with (first
        | (go_at_call 21; refine hF.mono ?_; rintro e w1 ⟨rfl, hx1⟩)
        | (at_builtin; refine wpList_app_G _ elemT rfl _ _ rfl (base := w1.heap.size) (l := []) rfl (OwnG.lit0 (Nat.le_refl _)) rfl (h.ext (hx1.alloc _)) ?cc1 ?cc2 ?cc3 ?cc4 ?_))
      case cc1 =>
        intro e
        obtain ⟨b, off, e2, _⟩ := h.at_ 0 _ (nthT_some HP0.out)
        rw [e] at e2; cases e2
      case cc2 => simp; omega
      case cc3 => simp; omega
      case cc4 => simp
      intro u w2 hown hbl
      have hx2 := below_ext ((Ext.refl w1).alloc _) hbl (Nat.le_refl _)
      go_wp2
      obtain ⟨g, c5, rfl, hg1, hg2, hg3, hg4⟩ := hown.tight HP0.out
      go_loopw [7] (fun i wr => ∃ k : Nat, k ≤ names.length ∧ i = .int .i64 k ∧ (∀ j, j < k → nameF (nthS names j) = true) ∧ OwnG It.cells 32 5 wr w1.heap.size (.slice (some ⟨g, 0, none⟩) l.length c5) (renK l names k) ∧ Ext w wr) (fun i _ => names.length - (intOf i).toNat)
      case atStart => exact ⟨0, by omega, rfl, by intro j hj; omega, hown, hx1.trans hx2⟩
      case round =>
        clear hown
        obtain ⟨k, hk, rfl, hall, hown, hx⟩ := hrel
        by_cases hlt : k < names.length
        · obtain ⟨b, off, hP, g0⟩ := nameAt' h3 k hlt
          subst hP
          have g0 := hx.cell g0
          have c1 : (k : Int) < names.length := by omega
          have c2 : (k : Int) < l.length := by have := HN.out; omega
          have d1 : IntKind.i64.wrap ((k : Int) + 1) = (k : Int) + 1 := IntWalk.i64_in _ ⟨by omega, by omega⟩
          have hkl : k < l.length := by have := HN.out; omega
          have hat : (renK l names k)[k]? = some (nthT l k) := by
            rw [nthT_some (by rw [renK_len]; exact hkl), renK_at l names k hkl, if_neg (by omega)]
          have m0 := hown.cell elemT.hk (renK_len l names k).symm k _ hat 0 _ rfl
          have n0 := hown.frozen (renK_len l names k).symm (k * 5)
          simp only [Nat.add_zero] at m0
          have hT := fun W => rname_any (nthS names k) W
          have HA := Lib.hid hat
          have HO := Lib.hid hown
          have HR := Lib.hid (show renK l names (k + 1) = (renK l names k).set k (nthS names k, (nthT l k).2) from rfl)
          cases hv : nameF (nthS names k) with
          | true =>
            have Hy : Hid (∀ j, j < k + 1 → nameF (nthS names j) = true) := Lib.hid (fun j hj => by
              by_cases hjk : j = k
              · subst hjk; exact hv
              · exact hall j (by omega))
            simp only [hv] at hT
            generalize nthS names k = s at *
            generalize nthT l k = x at *
            clear hall hv hat hown
            go_wp2_with (first
              | (go_at_call 17; refine (hT _).mono ?_; rintro e w3 ⟨rfl, rfl⟩))
            go_roundw
            case rel =>
              refine ⟨k + 1, by omega, by go_num, Hy.out, ?_, hx.setCell (by have := hx1.size; simp; omega) _⟩
              rw [HR.out]
              exact OwnG.setCell elemT.hk HO.out (renK_len l names k).symm k 0 x (s, x.2) (.string s) HA.out rfl (by omega)
            case measure => simp [intOf]; omega
          | false =>
            have HB := Lib.hid (show renameF l names = ([], 1) from by
              unfold renameF
              rw [if_pos HFF.out, if_pos HN.out, if_neg (fun hh => by have := hh _ (nthS_mem hlt); rw [hv] at this; cases this)])
            simp only [hv] at hT
            generalize nthS names k = s at *
            clear hall hv hat hown
            go_wp2_with (first
              | (go_at_call 17; refine (hT _).mono ?_; rintro e w3 ⟨rfl, rfl⟩))
            go_ret2
            exact ⟨⟨_, by rw [HB.out]; rfl, by rw [HB.out]; exact ResT.nil _⟩, hx⟩
        · obtain rfl : k = names.length := by omega
          have hallm : ∀ n ∈ names, nameF n = true := fun n hn => by
            obtain ⟨j, hj, rfl⟩ := List.getElem_of_mem hn
            have := hall j hj
            rwa [show nthS names j = names[j] from by simp [nthS, hj]] at this
          rw [HN.out] at hown
          have HP := Lib.hid (show renameF l names = if uniqB (renK l names l.length) = true then (renK l names l.length, 0) else ([], 6) from by
            unfold renameF
            rw [if_pos HFF.out, if_pos HN.out, if_pos hallm])
          have HI := Lib.hid (renamed_items HFF.out HN.out hallm)
          have HNL := Lib.hid (renK_len l names l.length)
          clear hall hallm
          generalize renK l names l.length = out at *
          obtain ⟨P9, cap9, hv9, s9⟩ := hown.slG elemT (by rw [HNL.out]; omega)
          rw [HNL.out] at hv9
          injection hv9 with e1 e2 e3
          subst e1 e3
          clear hown
          have e9 := s9.len
          go_wp2
          go_loopw [8] (fun i wr => ∃ k : Nat, k ≤ out.length ∧ i = .int .i64 k ∧ (∀ j : Nat, j < k → idxF out (nthT out j).1 = j) ∧ Ext w wr ∧ SlT wr (some ⟨g, 0, none⟩) c5 out) (fun i _ => out.length - (intOf i).toNat)
          case atStart => exact ⟨0, by omega, rfl, by intro j hj; omega, hx, s9⟩
          case round =>
            clear s9 hx
            obtain ⟨k, hk, rfl, hall, hx, s9⟩ := hrel
            by_cases hlt : k < out.length
            · obtain ⟨b, off, hP, g0, g1, g2, g3, g4⟩ := s9.itemAt k hlt
              injection hP with hP
              injection hP with hP1 hP2
              subst hP1 hP2
              simp only [Nat.zero_add] at g0 g1 g2 g3 g4
              have c1 : (k : Int) < out.length := by omega
              have c1' : (k : Int) < l.length := by have := HNL.out; omega
              have d1 : IntKind.i64.wrap ((k : Int) + 1) = (k : Int) + 1 := IntWalk.i64_in _ ⟨by omega, by omega⟩
              have hI := rindexX_any (some ⟨g, 0, none⟩) c5 out (nthT out k).1 wr s9
              rw [HNL.out] at hI
              have S9 := Lib.hid s9
              by_cases he : idxF out (nthT out k).1 = k
              · have Hy : Hid (∀ j : Nat, j < k + 1 → idxF out (nthT out j).1 = j) := Lib.hid (fun j hj => by
                  by_cases hjk : j = k
                  · subst hjk; exact he
                  · exact hall j (by omega))
                rw [he] at hI
                generalize nthT out k = x at *
                clear hall he s9
                go_wp2_with (go_at_call 72; refine hI.mono ?_; rintro e w4 ⟨rfl, hx4⟩)
                go_roundw
                case rel => exact ⟨k + 1, by omega, by go_num, Hy.out, hx.trans hx4, S9.out.ext hx4⟩
                case measure => simp [intOf]; omega
              · have HB := Lib.hid (show renameF l names = ([], 6) from by rw [HP.out, if_neg (by rw [uniqB_no hlt he]; simp)])
                have hne : (idxF out (nthT out k).1 != (k : Int)) = true := by simpa using he
                generalize nthT out k = x at *
                generalize idxF out x.1 = z at *
                clear hall he s9
                go_wp2_with (go_at_call 72; refine hI.mono ?_; rintro e w4 ⟨rfl, hx4⟩)
                go_ret2
                exact ⟨⟨_, by rw [HB.out]; rfl, by rw [HB.out]; exact ResT.nil _⟩, hx.trans hx4⟩
            · obtain rfl : k = out.length := by omega
              have hu := uniqB_yes hall
              have HB := Lib.hid (show renameF l names = (out, 0) from by rw [HP.out, if_pos hu])
              have c1' : ¬ (out.length : Int) < l.length := by have := HNL.out; omega
              clear hall hu
              go_wp2
              go_ret2
              exact ⟨⟨.slice (some ⟨g, 0, none⟩) l.length c5, by rw [HB.out]; rfl, by rw [HB.out]; exact ⟨_, _, by rw [HNL.out], s9⟩⟩, hx⟩
    · have HB := Lib.hid (show renameF l names = ([], 11) from by
        unfold renameF
        rw [if_pos HFF.out, if_neg hn])
      have hn' : ((names.length : Int) != l.length) = true := by simp; omega
      have hn'' : ((l.length : Int) == names.length) = false := by simp; omega
      clear hn
      try rw [HB.out]
      go_enter Tryd.func36, Tryd.ntmps36
      go_wp2_with (go_at_call 21; refine hF.mono ?_; rintro e w1 ⟨rfl, hx1⟩)
      go_ret2
      exact ⟨⟨_, rfl, ResT.nil _⟩, hx1⟩
end
section
open Go.RowKit
set_option linter.unusedVariables false
set_option linter.unusedSimpArgs false
set_option linter.unusedSectionVars false
set_option maxRecDepth 20000
attribute [local go_sem] Oper.semAt_some

set_option maxHeartbeats 8000000 in
theorem sameitems_yes (P Q : Option Addr) (c d : Nat) (l : List It) (w : World) (h : SlT w P c l) (h2 : SlT w Q d l) :
    Calls Tryd.prog 33 #[.slice P l.length c, .slice Q l.length d] w fun e w' => e = .returned (.bool true) ∧ Ext w w' := by
  have hlen := h.len
  go_enter Tryd.func33, Tryd.ntmps33
  go_wp2
  go_loopw [5] (fun i wr => ∃ k : Nat, k ≤ l.length ∧ i = .int .i64 k ∧ Ext w wr) (fun i _ => l.length - (intOf i).toNat)
  case atStart => exact ⟨0, by omega, rfl, Ext.refl w⟩
  case round =>
    obtain ⟨k, hk, rfl, hx⟩ := hrel
    by_cases hlt : k < l.length
    · obtain ⟨b, off, hP, g0, g1, g2, g3, g4⟩ := h.itemAt k hlt
      obtain ⟨b2, off2, hQ, q0, q1, q2, q3, q4⟩ := h2.itemAt k hlt
      subst hP
      subst hQ
      have g0 := hx.cell g0
      have g1 := hx.cell g1
      have g2 := hx.cell g2
      have g3 := hx.cell g3
      have g4 := hx.cell g4
      have q0 := hx.cell q0
      have q1 := hx.cell q1
      have q2 := hx.cell q2
      have q3 := hx.cell q3
      have q4 := hx.cell q4
      have c1 : (k : Int) < l.length := by omega
      have d1 : IntKind.i64.wrap ((k : Int) + 1) = (k : Int) + 1 := IntWalk.i64_in _ ⟨by omega, by omega⟩
      have hG := fun (op : BinOp) (u v : Operand) (xs ys : Array Value) (W : World) => run_eqGuard_agg (P := Tryd.prog) W op 32 u v xs ys (by kernel_rfl)
      generalize nthT l k = x at *
      go_wp2
      go_quiet (fail)
      go_wp2
      go_roundw
      case rel => exact ⟨k + 1, by omega, by go_num, hx.drewN _⟩
      case measure => simp [intOf]; omega
    · obtain rfl : k = l.length := by omega
      go_wp2
      go_ret
      exact ⟨rfl, hx⟩
set_option maxHeartbeats 16000000 in
theorem narrows_law (P Q R : Option Addr) (cap cap2 cap3 : Nat) (l : List It) (r : List Vl) (names : List ByteArray) (w : World) (aw : ∀ W, Ext w W → Calls Tryd.prog 11 #[] W fun e w' => e = .returned (.bool true) ∧ Ext W w')
    (h : SlT w P cap l) (h2 : SlV w Q cap2 r) (h3 : SlS w R cap3 names) :
    Calls Tryd.prog 5 #[.slice P l.length cap, .slice Q r.length cap2, .slice R names.length cap3] w fun e w' => e = .returned (.bool true) ∧ Ext w w' := by
  have hlen := h.len
  have hlen2 := h2.len
  have hlen3 := h3.len
  have hI := fun W hx => litems_any P cap l W (h.ext hx)
  have hN := fun W hx => lnames_any R cap3 names W (h3.ext hx)
  have hR := fun (t : TypeId) (W : World) (hx : Ext (w.alloc (.cells #[.slice Q r.length cap2] t)) W) => lrows_any (some ⟨w.heap.size, 0, none⟩) 1 [(Q, cap2, r)] W (rw_one h2 hx).1 (rw_one h2 hx).2
  have hb0 := fun t => (Ext.refl w).alloc (.cells #[.slice Q r.length cap2] t)
  go_enter Tryd.func5, Tryd.ntmps5
  go_wp2_with (first
    | (go_at_call 9; refine (hI _ (Ext.refl _)).mono ?_; rintro e w1 ⟨⟨b1, rfl⟩, rfl⟩; cases b1)
    | (go_at_call 10; refine (hR _ _ (Ext.refl _)).mono ?_; rintro e w1 ⟨⟨b2, rfl⟩, rfl⟩; cases b2)
    | (go_at_call 30; refine (hN _ (hb0 _)).mono ?_; rintro e w1 ⟨⟨b3, rfl, hn20⟩, rfl⟩; cases b3)
    | (go_at_call 11; refine (aw _ (by first | exact Ext.refl _ | exact hb0 _)).mono ?_; rintro e w7 ⟨rfl, hx7⟩))
  all_goals first
    | (go_ret; exact ⟨rfl, hx7⟩)
    | (go_ret; exact ⟨rfl, (hb0 _).trans hx7⟩)
    | skip
  replace hn20 : names.length ≤ 20 := by first | exact hn20 | exact hn20 rfl | (simpa using hn20)
  have yc := hb0 23
  clear hb0 hR hI hN
  have p1 := fun W hx => narrow_any P R cap cap3 l names W (h.ext hx) (h3.ext hx) hn20
  have p2 := fun W hx => rnarrow_any P R cap cap3 l names W (h.ext hx) (h3.ext hx) hn20
  have r1 := fun W hx => rename_any P R cap cap3 l names W (h.ext hx) (h3.ext hx)
  have r2 := fun W hx => rrename_any P R cap cap3 l names W (h.ext hx) (h3.ext hx)
  have f1 := fun W hx => fits_any P Q cap cap2 l r W (h.ext hx) (h2.ext hx)
  generalize renameF l names = rf at *
  obtain ⟨rl, re⟩ := rf
  by_cases hfe : (narrowF l names).2 = 0 ∧ fitsB l r = true
  · obtain ⟨e1, e2, e3⟩ := narrow_fits hfe.1 hfe.2
    have k1 := fun W hx => pick_any P Q R cap cap2 cap3 l r names W (h.ext hx) (h2.ext hx) (h3.ext hx) hn20
    have k2 := fun W P9 c9 Q9 d9 s9 t9 => fits_any P9 Q9 c9 d9 (narrowed l names) (picked l r names) W s9 t9
    simp only [e1] at p1 p2
    simp only [e2] at k1
    simp only [e3] at k2
    simp only [hfe.2] at f1
    clear hfe e1 e2 e3
    generalize narrowed l names = nl at *
    generalize picked l r names = pl at *
    go_wp2_with (first
      | (go_at_call 31; refine (p1 _ yc).mono ?_; rintro e w2 ⟨⟨u, rfl, Q1, d1, rfl, s1⟩, x2⟩; replace yc := yc.trans x2)
      | (go_at_call 32; refine (p2 _ yc).mono ?_; rintro e w3 ⟨⟨u, rfl, Q2, d2, rfl, s2⟩, x3⟩; replace yc := yc.trans x3; replace s1 := s1.ext x3)
      | (go_at_call 33; with_reducible refine (sameitems_yes _ _ _ _ _ _ s1 s2).mono ?_; rintro e w4 ⟨rfl, x4⟩; replace yc := yc.trans x4; replace s1 := s1.ext x4)
      | (go_at_call 34; refine (k1 _ yc).mono ?_; rintro e w5 ⟨⟨u, rfl, Q5, d5, rfl, s5⟩, x5⟩; replace yc := yc.trans x5; replace s1 := s1.ext x5)
      | (go_at_call 22; with_reducible refine (f1 _ yc).mono ?_; rintro e w6 ⟨rfl, x6⟩; replace yc := yc.trans x6; replace s1 := s1.ext x6)
      | (go_at_call 22; with_reducible refine (k2 _ _ _ _ _ s1 s5).mono ?_; rintro e w6 ⟨rfl, x6⟩; replace yc := yc.trans x6)
      | (go_at_call 35; refine (r1 _ yc).mono ?_; rintro e w8 ⟨⟨u, rfl, Q8, d8, rfl, s8⟩, x8⟩; replace yc := yc.trans x8)
      | (go_at_call 36; refine (r2 _ yc).mono ?_; rintro e w9 ⟨⟨u, rfl, Q9, d9, rfl, s9⟩, x9⟩; replace yc := yc.trans x9; replace s8 := s8.ext x9)
      | (go_at_call 33; with_reducible refine (sameitems_yes _ _ _ _ _ _ s8 s9).mono ?_; rintro e w4 ⟨rfl, x4⟩; replace yc := yc.trans x4)
      | (go_at_call 11; refine (aw _ yc).mono ?_; rintro e w7 ⟨rfl, hx7⟩))
    go_ret
    exact ⟨rfl, yc.trans hx7⟩
  · have HNO := Lib.hid hfe
    clear hfe
    generalize narrowF l names = nf at *
    obtain ⟨nl, ne⟩ := nf
    simp only at p1 p2
    generalize fitsB l r = fb at *
    by_cases h0 : ne = 0
    · have hfb : fb = false := by
        cases fb with
        | false => rfl
        | true => exact absurd ⟨h0, rfl⟩ HNO.out
      subst h0 hfb
      go_wp2_with (first
        | (go_at_call 31; refine (p1 _ yc).mono ?_; rintro e w2 ⟨⟨u, rfl, Q1, d1, rfl, s1⟩, x2⟩; replace yc := yc.trans x2)
        | (go_at_call 32; refine (p2 _ yc).mono ?_; rintro e w3 ⟨⟨u, rfl, Q2, d2, rfl, s2⟩, x3⟩; replace yc := yc.trans x3; replace s1 := s1.ext x3)
        | (go_at_call 33; with_reducible refine (sameitems_yes _ _ _ _ _ _ s1 s2).mono ?_; rintro e w4 ⟨rfl, x4⟩; replace yc := yc.trans x4; replace s1 := s1.ext x4)
        | (go_at_call 22; with_reducible refine (f1 _ yc).mono ?_; rintro e w6 ⟨rfl, x6⟩; replace yc := yc.trans x6; replace s1 := s1.ext x6)
        | (go_at_call 35; refine (r1 _ yc).mono ?_; rintro e w8 ⟨⟨u, rfl, Q8, d8, rfl, s8⟩, x8⟩; replace yc := yc.trans x8)
        | (go_at_call 36; refine (r2 _ yc).mono ?_; rintro e w9 ⟨⟨u, rfl, Q9, d9, rfl, s9⟩, x9⟩; replace yc := yc.trans x9; replace s8 := s8.ext x9)
        | (go_at_call 33; with_reducible refine (sameitems_yes _ _ _ _ _ _ s8 s9).mono ?_; rintro e w4 ⟨rfl, x4⟩; replace yc := yc.trans x4)
        | (go_at_call 11; refine (aw _ yc).mono ?_; rintro e w7 ⟨rfl, hx7⟩))
      go_ret
      exact ⟨rfl, yc.trans hx7⟩
    · have h0' : (ne == 0) = false := by simpa using h0
      clear h0
      go_wp2_with (first
        | (go_at_call 31; refine (p1 _ yc).mono ?_; rintro e w2 ⟨⟨u, rfl, Q1, d1, rfl, s1⟩, x2⟩; replace yc := yc.trans x2)
        | (go_at_call 32; refine (p2 _ yc).mono ?_; rintro e w3 ⟨⟨u, rfl, Q2, d2, rfl, s2⟩, x3⟩; replace yc := yc.trans x3; replace s1 := s1.ext x3)
        | (go_at_call 33; with_reducible refine (sameitems_yes _ _ _ _ _ _ s1 s2).mono ?_; rintro e w4 ⟨rfl, x4⟩; replace yc := yc.trans x4; replace s1 := s1.ext x4)
        | (go_at_call 22; with_reducible refine (f1 _ yc).mono ?_; rintro e w6 ⟨rfl, x6⟩; replace yc := yc.trans x6; replace s1 := s1.ext x6)
        | (go_at_call 35; refine (r1 _ yc).mono ?_; rintro e w8 ⟨⟨u, rfl, Q8, d8, rfl, s8⟩, x8⟩; replace yc := yc.trans x8)
        | (go_at_call 36; refine (r2 _ yc).mono ?_; rintro e w9 ⟨⟨u, rfl, Q9, d9, rfl, s9⟩, x9⟩; replace yc := yc.trans x9; replace s8 := s8.ext x9)
        | (go_at_call 33; with_reducible refine (sameitems_yes _ _ _ _ _ _ s8 s9).mono ?_; rintro e w4 ⟨rfl, x4⟩; replace yc := yc.trans x4)
        | (go_at_call 11; refine (aw _ yc).mono ?_; rintro e w7 ⟨rfl, hx7⟩))
      go_ret
      exact ⟨rfl, yc.trans hx7⟩
end
end Go.Proofs.YtepgpejdnlejnaaDoor
