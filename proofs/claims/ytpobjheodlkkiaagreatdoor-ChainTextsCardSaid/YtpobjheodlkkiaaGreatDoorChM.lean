/- Rings: Valid of both; the members as a list, of both. -/
import Derived.Test.YtpobjheodlkkiaaGreatDoorChL
import Derived.Test.YtpobjheodlkkiaaGreatDoorChH
import Derived.Test.YtpobjheodlkkiaaGreatDoorChI
namespace Go.Proofs.YtpobjheodlkkiaaGreatDoor
open Go.RowKit Go.Sort
set_option linter.unusedVariables false
set_option maxRecDepth 20000
set_option linter.unusedSimpArgs false
set_option linter.unusedSectionVars false
set_option maxRecDepth 20000
attribute [local go_sem] Oper.semAt_some

def validB (l : List Lk) : Bool := (wrongF l).2.2 == 0
theorem validB_iff {l : List Lk} (h : validB l = true) : wrongF l = (-1, 0, 0) := by
  unfold validB at h
  have h := eq_of_beq h
  unfold wrongF at h ⊢
  split at h
  · simp at h
  · rename_i h0
    rw [if_neg h0]
    split at h
    · simp at h
    · rename_i h1
      rw [if_neg h1]
      split at h
      · split at h <;> simp at h
      · split at h
        · simp at h
        · rename_i h3
          rw [if_neg h3]
          split at h
          · simp at h
          · split at h
            · simp at h
            · split at h
              · simp at h
              · rfl
theorem validB_built {o : Int} {ms : List Int} (h : Right (o :: ms)) : validB (builtF o ms) = true := by
  unfold validB
  rw [built_valid h]
  rfl
theorem validB_is {l : List Lk} (h : validB l = true) : ∃ o ms, l = builtF o ms ∧ Right (o :: ms) ∧ own l = o := valid_built (validB_iff h)
theorem valid_any (P : Option Addr) (cap : Nat) (l : List Lk) (w : World) (h : SlL w P cap l) (ok : ∀ x ∈ l, OkK x) :
    Calls Tryz.prog 11 #[.slice P l.length cap] w fun e w' => e = .returned (.bool (validB l)) ∧ Ext w w' := by
  have hW := wrong_any P cap l w h ok
  unfold validB
  generalize wrongF l = x at *
  unfold wrongV at hW
  go_enter Tryz.func11, Tryz.ntmps11
  go_wp2_with (go_at_call 26; refine hW.mono ?_; rintro e w1 ⟨rfl, hx1⟩)
  go_ret
  exact ⟨by first | rfl | (simp; done), hx1⟩
theorem rvalid_any (P : Option Addr) (cap : Nat) (l : List Lk) (w : World) (h : SlL w P cap l) (ok : ∀ x ∈ l, OkK x) :
    Calls Tryz.prog 16 #[.slice P l.length cap] w fun e w' => e = .returned (.bool (validB l)) ∧ Ext w w' := by
  have hW := rwrong_any P cap l w h ok
  unfold validB
  generalize wrongF l = x at *
  unfold wrongV at hW
  go_enter Tryz.func16, Tryz.ntmps16
  go_wp2_with (go_at_call 29; refine hW.mono ?_; rintro e w1 ⟨rfl, hx1⟩)
  go_ret
  exact ⟨by first | rfl | (simp; done), hx1⟩
def onR (m j : Nat) : Nat := j % (m + 1)
def backR (m j : Nat) : Nat := (m + 1 - j % (m + 1)) % (m + 1)
theorem way_on {o : Int} {ms : List Int} (h : Right (o :: ms)) : Way o ms (fun x => x.2.1) (onR ms.length) := by
  refine ⟨by simp [onR], fun j => Nat.mod_lt _ (by omega), fun j hj => ?_, fun j hj => ?_, ?_⟩
  · unfold onR
    rw [Nat.mod_eq_of_lt (show j < ms.length + 1 by omega), lk_round h (by omega)]
  · unfold onR
    rw [Nat.mod_eq_of_lt (show j + 1 < ms.length + 1 by omega)]
    omega
  · unfold onR
    exact Nat.mod_self _
theorem way_back {o : Int} {ms : List Int} (h : Right (o :: ms)) : Way o ms (fun x => x.2.2.1) (backR ms.length) := by
  have h1 : ∀ j, 0 < j → j < ms.length + 1 → backR ms.length j = ms.length + 1 - j := fun j h0 h1 => by
    unfold backR
    rw [Nat.mod_eq_of_lt h1, Nat.mod_eq_of_lt (by omega)]
  have h0 : backR ms.length 0 = 0 := by simp [backR]
  have hn : backR ms.length (ms.length + 1) = 0 := by unfold backR; rw [Nat.mod_self]; simp
  refine ⟨h0, fun j => Nat.mod_lt _ (by omega), fun j hj => ?_, fun j hj => ?_, hn⟩
  · by_cases hj0 : j = 0
    · subst hj0
      rw [h0, lk_round h (by omega)]
      by_cases hm : ms.length = 0
      · rw [show 0 + 1 = ms.length + 1 from by omega, hn]
        simp [hm]
      · rw [h1 (0 + 1) (by omega) (by omega)]
        simp only [Nat.zero_add]
        rw [Nat.mod_eq_of_lt (by omega)]
        simp
    · rw [h1 j (by omega) (by omega), lk_round h (by omega)]
      simp only
      rw [show ms.length + 1 - j + ms.length = (ms.length - j) + (ms.length + 1) from by omega, Nat.add_mod_right, Nat.mod_eq_of_lt (by omega)]
      by_cases hjm : j = ms.length
      · rw [hjm, hn, Nat.sub_self]
      · rw [h1 (j + 1) (by omega) (by omega), show ms.length + 1 - (j + 1) = ms.length - j from by omega]
  · rw [h1 (j + 1) (by omega) (by omega)]
    omega
theorem list_on (o : Int) (ms : List Int) : (List.range ms.length).map (fun i => nthI (o :: ms) (onR ms.length (i + 1))) = ms := by
  apply ext_nthI
  · simp
  · intro i hi
    simp at hi
    have : onR ms.length (i + 1) = i + 1 := Nat.mod_eq_of_lt (by omega)
    unfold nthI
    simp [List.getD_eq_getElem?_getD, hi, this]
theorem list_back (o : Int) (ms : List Int) : (List.range ms.length).map (fun i => nthI (o :: ms) (backR ms.length (i + 1))) = ms.reverse := by
  apply ext_nthI
  · simp
  · intro i hi
    simp at hi
    have : backR ms.length (i + 1) = ms.length - 1 - i + 1 := by
      unfold backR
      rw [Nat.mod_eq_of_lt (show i + 1 < ms.length + 1 by omega), Nat.mod_eq_of_lt (by omega)]
      omega
    unfold nthI
    simp [List.getD_eq_getElem?_getD, hi, this, List.getElem?_reverse, show ms.length - 1 - i < ms.length by omega]


end Go.Proofs.YtpobjheodlkkiaaGreatDoor
