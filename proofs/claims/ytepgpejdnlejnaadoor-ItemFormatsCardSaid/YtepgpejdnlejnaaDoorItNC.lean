/- Items: Rename of both. -/
import Derived.Test.YtepgpejdnlejnaaDoorItNB
import Derived.Lib.SliceRun
import Derived.Laws.StructEq
import Derived.Laws.Tables
import Derived.Laws.Cover2
import Derived.KernelRfl
namespace Go.Proofs.YtepgpejdnlejnaaDoor
open Go.RowKit
set_option linter.unusedVariables false
set_option linter.unusedSimpArgs false
set_option linter.unusedSectionVars false
set_option maxRecDepth 20000
attribute [local go_sem] Oper.semAt_some


set_option maxHeartbeats 8000000 in
theorem rename_any (P R : Option Addr) (cap cap3 : Nat) (l : List It) (names : List ByteArray) (w : World) (h : SlT w P cap l) (h3 : SlS w R cap3 names) :
    Calls Tryd.prog 35 #[.slice P l.length cap, .slice R names.length cap3] w fun e w' => (∃ v, e = .returned (.tuple #[v, .int .i64 (renameF l names).2]) ∧ ResT w' v (renameF l names).1) ∧ Ext w w' := by
  have hlen := h.len
  have hlen3 := h3.len
  have hF := items_any P cap l w h
  cases hf : itemsB l with
  | false =>
    have HB := Lib.hid (show renameF l names = ([], 1) from by simp [renameF, hf])
    rw [hf] at hF
    try rw [HB.out]
    go_enter Tryd.func35, Tryd.ntmps35
    go_wp2_with (go_at_call 20; refine hF.mono ?_; rintro e w1 ⟨rfl, hx1⟩)
    go_ret2
    exact ⟨⟨_, rfl, ResT.nil _⟩, hx1⟩
  | true =>
    have HFF := Lib.hid hf
    have HP0 := Lib.hid (items_pos hf)
    have hl8 := items_le8 hf
    rw [hf] at hF
    clear hf
    by_cases hn : names.length = l.length
    · have hC := fun W hx => clonet_any P cap l W (h.ext hx) (by omega) (by
        intro e
        obtain ⟨b, off, e2, _⟩ := h.at_ 0 _ (nthT_some HP0.out)
        rw [e] at e2; cases e2)
      have hn' : ((names.length : Int) != l.length) = false := by simp [hn]
      have HN := Lib.hid hn
      clear hn
      go_enter Tryd.func35, Tryd.ntmps35
      go_wp2_with (first
        | (go_at_call 20; refine hF.mono ?_; rintro e w1 ⟨rfl, hx1⟩)
        | (go_at_call 73; refine (hC _ hx1).mono ?_; rintro e w2 ⟨⟨u, rfl, hown⟩, hx2⟩))
      obtain ⟨g, c5, rfl, hg1, hg2, hg3, hg4⟩ := hown.tight HP0.out
      go_loopw [21, 7, 8] (fun i _ _ wr => ∃ k : Nat, k ≤ names.length ∧ i = .int .i64 k ∧ (∀ j, j < k → nameF (nthS names j) = true) ∧ OwnG It.cells 32 5 wr w1.heap.size (.slice (some ⟨g, 0, none⟩) l.length c5) (renK l names k) ∧ Ext w wr) (fun i _ _ _ => names.length - (intOf i).toNat)
      case atStart => exact ⟨0, by omega, rfl, by intro j hj; omega, hown, hx1.trans hx2⟩
      case round =>
        clear hown
        obtain ⟨k, hk, rfl, hall, hown, hx⟩ := hrel
        by_cases hlt : k < names.length
        · obtain ⟨b, off, hP, g0⟩ := nameAt' h3 k hlt
          subst hP
          have g0 := hx.cell g0
          have c1 : (k : Int) < names.length := by omega
          have c2 : (k : Int) < l.length := by have := HN.out; omega
          have d1 : IntKind.i64.wrap ((k : Int) + 1) = (k : Int) + 1 := IntWalk.i64_in _ ⟨by omega, by omega⟩
          have hkl : k < l.length := by have := HN.out; omega
          have hat : (renK l names k)[k]? = some (nthT l k) := by
            rw [nthT_some (by rw [renK_len]; exact hkl), renK_at l names k hkl, if_neg (by omega)]
          have m0 := hown.cell elemT.hk (renK_len l names k).symm k _ hat 0 _ rfl
          have n0 := hown.frozen (renK_len l names k).symm (k * 5)
          simp only [Nat.add_zero] at m0
          have hT := fun W => name_any (nthS names k) W
          have HA := Lib.hid hat
          have HO := Lib.hid hown
          have HR := Lib.hid (show renK l names (k + 1) = (renK l names k).set k (nthS names k, (nthT l k).2) from rfl)
          cases hv : nameF (nthS names k) with
          | true =>
            have Hy : Hid (∀ j, j < k + 1 → nameF (nthS names j) = true) := Lib.hid (fun j hj => by
              by_cases hjk : j = k
              · subst hjk; exact hv
              · exact hall j (by omega))
            simp only [hv] at hT
            generalize nthS names k = s at *
            generalize nthT l k = x at *
            clear hall hv hat hown
            go_wp2_with (first
              | (go_at_call 16; refine (hT _).mono ?_; rintro e w3 ⟨rfl, rfl⟩))
            go_roundw
            case rel =>
              refine ⟨k + 1, by omega, by go_num, Hy.out, ?_, hx.setCell (by have := hx1.size; simp; omega) _⟩
              rw [HR.out]
              exact OwnG.setCell elemT.hk HO.out (renK_len l names k).symm k 0 x (s, x.2) (.string s) HA.out rfl (by omega)
            case measure => simp [intOf]; omega
          | false =>
            have HB := Lib.hid (show renameF l names = ([], 1) from by
              unfold renameF
              rw [if_pos HFF.out, if_pos HN.out, if_neg (fun hh => by have := hh _ (nthS_mem hlt); rw [hv] at this; cases this)])
            simp only [hv] at hT
            generalize nthS names k = s at *
            clear hall hv hat hown
            go_wp2_with (first
              | (go_at_call 16; refine (hT _).mono ?_; rintro e w3 ⟨rfl, rfl⟩))
            go_ret2
            exact ⟨⟨_, by rw [HB.out]; rfl, by rw [HB.out]; exact ResT.nil _⟩, hx⟩
        · obtain rfl : k = names.length := by omega
          have hallm : ∀ n ∈ names, nameF n = true := fun n hn => by
            obtain ⟨j, hj, rfl⟩ := List.getElem_of_mem hn
            have := hall j hj
            rwa [show nthS names j = names[j] from by simp [nthS, hj]] at this
          rw [HN.out] at hown
          have HP := Lib.hid (show renameF l names = if uniqB (renK l names l.length) = true then (renK l names l.length, 0) else ([], 6) from by
            unfold renameF
            rw [if_pos HFF.out, if_pos HN.out, if_pos hallm])
          have HI := Lib.hid (renamed_items HFF.out HN.out hallm)
          have HNL := Lib.hid (renK_len l names l.length)
          clear hall hallm
          generalize renK l names l.length = out at *
          obtain ⟨P9, cap9, hv9, s9⟩ := hown.slG elemT (by rw [HNL.out]; omega)
          rw [HNL.out] at hv9
          injection hv9 with e1 e2 e3
          subst e1 e3
          clear hown
          have HI9 := fun W hx => items_any (some ⟨g, 0, none⟩) c5 out W (s9.ext hx)
          rw [HI.out, HNL.out] at HI9
          cases hu : uniqB out with
          | true =>
            rw [hu] at HI9
            have HB := Lib.hid (show renameF l names = (out, 0) from by rw [HP.out, if_pos hu])
            clear hu
            go_wp2_with (first
              | (go_at_call 20; refine (HI9 _ (Ext.refl _)).mono ?_; rintro e w4 ⟨rfl, hx4⟩))
            go_ret2
            exact ⟨⟨.slice (some ⟨g, 0, none⟩) l.length c5, by rw [HB.out]; rfl, by rw [HB.out]; exact ⟨_, _, by rw [HNL.out], s9.ext hx4⟩⟩, hx.trans hx4⟩
          | false =>
            rw [hu] at HI9
            have HB := Lib.hid (show renameF l names = ([], 6) from by rw [HP.out, if_neg (by rw [hu]; simp)])
            clear hu
            go_wp2_with (first
              | (go_at_call 20; refine (HI9 _ (Ext.refl _)).mono ?_; rintro e w4 ⟨rfl, hx4⟩))
            go_ret2
            exact ⟨⟨_, by rw [HB.out]; rfl, by rw [HB.out]; exact ResT.nil _⟩, hx.trans hx4⟩
    · have HB := Lib.hid (show renameF l names = ([], 11) from by
        unfold renameF
        rw [if_pos HFF.out, if_neg hn])
      have hn' : ((names.length : Int) != l.length) = true := by simp; omega
      have hn'' : ((l.length : Int) == names.length) = false := by simp; omega
      clear hn
      try rw [HB.out]
      go_enter Tryd.func35, Tryd.ntmps35
      go_wp2_with (go_at_call 20; refine hF.mono ?_; rintro e w1 ⟨rfl, hx1⟩)
      go_ret2
      exact ⟨⟨_, rfl, ResT.nil _⟩, hx1⟩

set_option maxHeartbeats 8000000 in
theorem rrename_any (P R : Option Addr) (cap cap3 : Nat) (l : List It) (names : List ByteArray) (w : World) (h : SlT w P cap l) (h3 : SlS w R cap3 names) :
    Calls Tryd.prog 36 #[.slice P l.length cap, .slice R names.length cap3] w fun e w' => (∃ v, e = .returned (.tuple #[v, .int .i64 (renameF l names).2]) ∧ ResT w' v (renameF l names).1) ∧ Ext w w' := by
  have hlen := h.len
  have hlen3 := h3.len
  have hF := ritems_any P cap l w h
  cases hf : itemsB l with
  | false =>
    have HB := Lib.hid (show renameF l names = ([], 1) from by simp [renameF, hf])
    rw [hf] at hF
    try rw [HB.out]
    go_enter Tryd.func36, Tryd.ntmps36
    go_wp2_with (go_at_call 21; refine hF.mono ?_; rintro e w1 ⟨rfl, hx1⟩)
    go_ret2
    exact ⟨⟨_, rfl, ResT.nil _⟩, hx1⟩
  | true =>
    have HFF := Lib.hid hf
    have HP0 := Lib.hid (items_pos hf)
    have hl8 := items_le8 hf
    rw [hf] at hF
    clear hf
    by_cases hn : names.length = l.length
    · have hC := fun W hx => clonet_any P cap l W (h.ext hx) (by omega) (by
        intro e
        obtain ⟨b, off, e2, _⟩ := h.at_ 0 _ (nthT_some HP0.out)
        rw [e] at e2; cases e2)
      have hn' : ((names.length : Int) != l.length) = false := by simp [hn]
      have HN := Lib.hid hn
      clear hn
      go_enter Tryd.func36, Tryd.ntmps36
      go_wp2_with (first
        | (go_at_call 21; refine hF.mono ?_; rintro e w1 ⟨rfl, hx1⟩)
        | (at_builtin; refine wpList_app_G _ elemT rfl _ _ rfl (base := w1.heap.size) (l := []) rfl (OwnG.lit0 (Nat.le_refl _)) rfl (h.ext (hx1.alloc _)) ?cc1 ?cc2 ?cc3 ?cc4 ?_))
      case cc1 =>
        intro e
        obtain ⟨b, off, e2, _⟩ := h.at_ 0 _ (nthT_some HP0.out)
        rw [e] at e2; cases e2
      case cc2 => simp; omega
      case cc3 => simp; omega
      case cc4 => simp
      intro u w2 hown hbl
      have hx2 := below_ext ((Ext.refl w1).alloc _) hbl (Nat.le_refl _)
      go_wp2
      obtain ⟨g, c5, rfl, hg1, hg2, hg3, hg4⟩ := hown.tight HP0.out
      go_loopw [7] (fun i wr => ∃ k : Nat, k ≤ names.length ∧ i = .int .i64 k ∧ (∀ j, j < k → nameF (nthS names j) = true) ∧ OwnG It.cells 32 5 wr w1.heap.size (.slice (some ⟨g, 0, none⟩) l.length c5) (renK l names k) ∧ Ext w wr) (fun i _ => names.length - (intOf i).toNat)
      case atStart => exact ⟨0, by omega, rfl, by intro j hj; omega, hown, hx1.trans hx2⟩
      case round =>
        clear hown
        obtain ⟨k, hk, rfl, hall, hown, hx⟩ := hrel
        by_cases hlt : k < names.length
        · obtain ⟨b, off, hP, g0⟩ := nameAt' h3 k hlt
          subst hP
          have g0 := hx.cell g0
          have c1 : (k : Int) < names.length := by omega
          have c2 : (k : Int) < l.length := by have := HN.out; omega
          have d1 : IntKind.i64.wrap ((k : Int) + 1) = (k : Int) + 1 := IntWalk.i64_in _ ⟨by omega, by omega⟩
          have hkl : k < l.length := by have := HN.out; omega
          have hat : (renK l names k)[k]? = some (nthT l k) := by
            rw [nthT_some (by rw [renK_len]; exact hkl), renK_at l names k hkl, if_neg (by omega)]
          have m0 := hown.cell elemT.hk (renK_len l names k).symm k _ hat 0 _ rfl
          have n0 := hown.frozen (renK_len l names k).symm (k * 5)
          simp only [Nat.add_zero] at m0
          have hT := fun W => rname_any (nthS names k) W
          have HA := Lib.hid hat
          have HO := Lib.hid hown
          have HR := Lib.hid (show renK l names (k + 1) = (renK l names k).set k (nthS names k, (nthT l k).2) from rfl)
          cases hv : nameF (nthS names k) with
          | true =>
            have Hy : Hid (∀ j, j < k + 1 → nameF (nthS names j) = true) := Lib.hid (fun j hj => by
              by_cases hjk : j = k
              · subst hjk; exact hv
              · exact hall j (by omega))
            simp only [hv] at hT
            generalize nthS names k = s at *
            generalize nthT l k = x at *
            clear hall hv hat hown
            go_wp2_with (first
              | (go_at_call 17; refine (hT _).mono ?_; rintro e w3 ⟨rfl, rfl⟩))
            go_roundw
            case rel =>
              refine ⟨k + 1, by omega, by go_num, Hy.out, ?_, hx.setCell (by have := hx1.size; simp; omega) _⟩
              rw [HR.out]
              exact OwnG.setCell elemT.hk HO.out (renK_len l names k).symm k 0 x (s, x.2) (.string s) HA.out rfl (by omega)
            case measure => simp [intOf]; omega
          | false =>
            have HB := Lib.hid (show renameF l names = ([], 1) from by
              unfold renameF
              rw [if_pos HFF.out, if_pos HN.out, if_neg (fun hh => by have := hh _ (nthS_mem hlt); rw [hv] at this; cases this)])
            simp only [hv] at hT
            generalize nthS names k = s at *
            clear hall hv hat hown
            go_wp2_with (first
              | (go_at_call 17; refine (hT _).mono ?_; rintro e w3 ⟨rfl, rfl⟩))
            go_ret2
            exact ⟨⟨_, by rw [HB.out]; rfl, by rw [HB.out]; exact ResT.nil _⟩, hx⟩
        · obtain rfl : k = names.length := by omega
          have hallm : ∀ n ∈ names, nameF n = true := fun n hn => by
            obtain ⟨j, hj, rfl⟩ := List.getElem_of_mem hn
            have := hall j hj
            rwa [show nthS names j = names[j] from by simp [nthS, hj]] at this
          rw [HN.out] at hown
          have HP := Lib.hid (show renameF l names = if uniqB (renK l names l.length) = true then (renK l names l.length, 0) else ([], 6) from by
            unfold renameF
            rw [if_pos HFF.out, if_pos HN.out, if_pos hallm])
          have HI := Lib.hid (renamed_items HFF.out HN.out hallm)
          have HNL := Lib.hid (renK_len l names l.length)
          clear hall hallm
          generalize renK l names l.length = out at *
          obtain ⟨P9, cap9, hv9, s9⟩ := hown.slG elemT (by rw [HNL.out]; omega)
          rw [HNL.out] at hv9
          injection hv9 with e1 e2 e3
          subst e1 e3
          clear hown
          have e9 := s9.len
          go_wp2
          go_loopw [8] (fun i wr => ∃ k : Nat, k ≤ out.length ∧ i = .int .i64 k ∧ (∀ j : Nat, j < k → idxF out (nthT out j).1 = j) ∧ Ext w wr ∧ SlT wr (some ⟨g, 0, none⟩) c5 out) (fun i _ => out.length - (intOf i).toNat)
          case atStart => exact ⟨0, by omega, rfl, by intro j hj; omega, hx, s9⟩
          case round =>
            clear s9 hx
            obtain ⟨k, hk, rfl, hall, hx, s9⟩ := hrel
            by_cases hlt : k < out.length
            · obtain ⟨b, off, hP, g0, g1, g2, g3, g4⟩ := s9.itemAt k hlt
              injection hP with hP
              injection hP with hP1 hP2
              subst hP1 hP2
              simp only [Nat.zero_add] at g0 g1 g2 g3 g4
              have c1 : (k : Int) < out.length := by omega
              have c1' : (k : Int) < l.length := by have := HNL.out; omega
              have d1 : IntKind.i64.wrap ((k : Int) + 1) = (k : Int) + 1 := IntWalk.i64_in _ ⟨by omega, by omega⟩
              have hI := rindexX_any (some ⟨g, 0, none⟩) c5 out (nthT out k).1 wr s9
              rw [HNL.out] at hI
              have S9 := Lib.hid s9
              by_cases he : idxF out (nthT out k).1 = k
              · have Hy : Hid (∀ j : Nat, j < k + 1 → idxF out (nthT out j).1 = j) := Lib.hid (fun j hj => by
                  by_cases hjk : j = k
                  · subst hjk; exact he
                  · exact hall j (by omega))
                rw [he] at hI
                generalize nthT out k = x at *
                clear hall he s9
                go_wp2_with (go_at_call 72; refine hI.mono ?_; rintro e w4 ⟨rfl, hx4⟩)
                go_roundw
                case rel => exact ⟨k + 1, by omega, by go_num, Hy.out, hx.trans hx4, S9.out.ext hx4⟩
                case measure => simp [intOf]; omega
              · have HB := Lib.hid (show renameF l names = ([], 6) from by rw [HP.out, if_neg (by rw [uniqB_no hlt he]; simp)])
                have hne : (idxF out (nthT out k).1 != (k : Int)) = true := by simpa using he
                generalize nthT out k = x at *
                generalize idxF out x.1 = z at *
                clear hall he s9
                go_wp2_with (go_at_call 72; refine hI.mono ?_; rintro e w4 ⟨rfl, hx4⟩)
                go_ret2
                exact ⟨⟨_, by rw [HB.out]; rfl, by rw [HB.out]; exact ResT.nil _⟩, hx.trans hx4⟩
            · obtain rfl : k = out.length := by omega
              have hu := uniqB_yes hall
              have HB := Lib.hid (show renameF l names = (out, 0) from by rw [HP.out, if_pos hu])
              have c1' : ¬ (out.length : Int) < l.length := by have := HNL.out; omega
              clear hall hu
              go_wp2
              go_ret2
              exact ⟨⟨.slice (some ⟨g, 0, none⟩) l.length c5, by rw [HB.out]; rfl, by rw [HB.out]; exact ⟨_, _, by rw [HNL.out], s9⟩⟩, hx⟩
    · have HB := Lib.hid (show renameF l names = ([], 11) from by
        unfold renameF
        rw [if_pos HFF.out, if_neg hn])
      have hn' : ((names.length : Int) != l.length) = true := by simp; omega
      have hn'' : ((l.length : Int) == names.length) = false := by simp; omega
      clear hn
      try rw [HB.out]
      go_enter Tryd.func36, Tryd.ntmps36
      go_wp2_with (go_at_call 21; refine hF.mono ?_; rintro e w1 ⟨rfl, hx1⟩)
      go_ret2
      exact ⟨⟨_, rfl, ResT.nil _⟩, hx1⟩
end Go.Proofs.YtepgpejdnlejnaaDoor
