/- Rings: Valid of both; the members as a list, of both. -/
import Derived.Test.YthmcdlieglollaaChL
import Derived.Test.YthmcdlieglollaaChH
import Derived.Test.YthmcdlieglollaaChI
namespace Go.Proofs.Ythmcdlieglollaa
open Go.RowKit Go.Sort
set_option linter.unusedVariables false
set_option linter.unusedSimpArgs false
set_option linter.unusedSectionVars false
set_option maxRecDepth 20000
attribute [local go_sem] Oper.semAt_some

def validB (l : List Lk) : Bool := (wrongF l).2.2 == 0
theorem validB_iff {l : List Lk} (h : validB l = true) : wrongF l = (-1, 0, 0) := by
  unfold validB at h
  have h := eq_of_beq h
  unfold wrongF at h ⊢
  split at h
  · simp at h
  · rename_i h0
    rw [if_neg h0]
    split at h
    · simp at h
    · rename_i h1
      rw [if_neg h1]
      split at h
      · split at h <;> simp at h
      · split at h
        · simp at h
        · rename_i h3
          rw [if_neg h3]
          split at h
          · simp at h
          · split at h
            · simp at h
            · split at h
              · simp at h
              · rfl
theorem validB_built {o : Int} {ms : List Int} (h : Right (o :: ms)) : validB (builtF o ms) = true := by
  unfold validB
  rw [built_valid h]
  rfl
theorem validB_is {l : List Lk} (h : validB l = true) : ∃ o ms, l = builtF o ms ∧ Right (o :: ms) ∧ own l = o := valid_built (validB_iff h)
theorem valid_any (P : Option Addr) (cap : Nat) (l : List Lk) (w : World) (h : SlL w P cap l) (ok : ∀ x ∈ l, OkK x) :
    Calls Try.prog 14 #[.slice P l.length cap] w fun e w' => e = .returned (.bool (validB l)) ∧ Ext w w' := by
  have hW := wrong_any P cap l w h ok
  unfold validB
  generalize wrongF l = x at *
  unfold wrongV at hW
  go_enter Try.func14, Try.ntmps14
  go_wp2_with (go_at_call 12; refine hW.mono ?_; rintro e w1 ⟨rfl, hx1⟩)
  go_ret
  exact ⟨by first | rfl | (simp; done), hx1⟩
theorem rvalid_any (P : Option Addr) (cap : Nat) (l : List Lk) (w : World) (h : SlL w P cap l) (ok : ∀ x ∈ l, OkK x) :
    Calls Try.prog 22 #[.slice P l.length cap] w fun e w' => e = .returned (.bool (validB l)) ∧ Ext w w' := by
  have hW := rwrong_any P cap l w h ok
  unfold validB
  generalize wrongF l = x at *
  unfold wrongV at hW
  go_enter Try.func22, Try.ntmps22
  go_wp2_with (go_at_call 13; refine hW.mono ?_; rintro e w1 ⟨rfl, hx1⟩)
  go_ret
  exact ⟨by first | rfl | (simp; done), hx1⟩
def onR (m j : Nat) : Nat := j % (m + 1)
def backR (m j : Nat) : Nat := (m + 1 - j % (m + 1)) % (m + 1)
theorem way_on {o : Int} {ms : List Int} (h : Right (o :: ms)) : Way o ms (fun x => x.2.1) (onR ms.length) := by
  refine ⟨by simp [onR], fun j => Nat.mod_lt _ (by omega), fun j hj => ?_, fun j hj => ?_, ?_⟩
  · unfold onR
    rw [Nat.mod_eq_of_lt (show j < ms.length + 1 by omega), lk_round h (by omega)]
  · unfold onR
    rw [Nat.mod_eq_of_lt (show j + 1 < ms.length + 1 by omega)]
    omega
  · unfold onR
    exact Nat.mod_self _
theorem way_back {o : Int} {ms : List Int} (h : Right (o :: ms)) : Way o ms (fun x => x.2.2.1) (backR ms.length) := by
  have h1 : ∀ j, 0 < j → j < ms.length + 1 → backR ms.length j = ms.length + 1 - j := fun j h0 h1 => by
    unfold backR
    rw [Nat.mod_eq_of_lt h1, Nat.mod_eq_of_lt (by omega)]
  have h0 : backR ms.length 0 = 0 := by simp [backR]
  have hn : backR ms.length (ms.length + 1) = 0 := by unfold backR; rw [Nat.mod_self]; simp
  refine ⟨h0, fun j => Nat.mod_lt _ (by omega), fun j hj => ?_, fun j hj => ?_, hn⟩
  · by_cases hj0 : j = 0
    · subst hj0
      rw [h0, lk_round h (by omega)]
      by_cases hm : ms.length = 0
      · rw [show 0 + 1 = ms.length + 1 from by omega, hn]
        simp [hm]
      · rw [h1 (0 + 1) (by omega) (by omega)]
        simp only [Nat.zero_add]
        rw [Nat.mod_eq_of_lt (by omega)]
        simp
    · rw [h1 j (by omega) (by omega), lk_round h (by omega)]
      simp only
      rw [show ms.length + 1 - j + ms.length = (ms.length - j) + (ms.length + 1) from by omega, Nat.add_mod_right, Nat.mod_eq_of_lt (by omega)]
      by_cases hjm : j = ms.length
      · rw [hjm, hn, Nat.sub_self]
      · rw [h1 (j + 1) (by omega) (by omega), show ms.length + 1 - (j + 1) = ms.length - j from by omega]
  · rw [h1 (j + 1) (by omega) (by omega)]
    omega
theorem list_on (o : Int) (ms : List Int) : (List.range ms.length).map (fun i => nthI (o :: ms) (onR ms.length (i + 1))) = ms := by
  apply ext_nthI
  · simp
  · intro i hi
    simp at hi
    have : onR ms.length (i + 1) = i + 1 := Nat.mod_eq_of_lt (by omega)
    unfold nthI
    simp [List.getD_eq_getElem?_getD, hi, this]
theorem list_back (o : Int) (ms : List Int) : (List.range ms.length).map (fun i => nthI (o :: ms) (backR ms.length (i + 1))) = ms.reverse := by
  apply ext_nthI
  · simp
  · intro i hi
    simp at hi
    have : backR ms.length (i + 1) = ms.length - 1 - i + 1 := by
      unfold backR
      rw [Nat.mod_eq_of_lt (show i + 1 < ms.length + 1 by omega), Nat.mod_eq_of_lt (by omega)]
      omega
    unfold nthI
    simp [List.getD_eq_getElem?_getD, hi, this, List.getElem?_reverse, show ms.length - 1 - i < ms.length by omega]
/-- the members, gathered one way or the other -/
theorem gathered_any (P : Option Addr) (cap : Nat) (l : List Lk) (o : Int) (ms : List Int) (g : Nat) (dir : Lk → Int) (r : Nat → Nat) (hlb : l = builtF o ms) (hr : Right (o :: ms)) (hw : Way o ms dir r) (hG : ∀ x W, Calls Try.prog g #[Lk.v x] W fun e w' => e = .returned (.int .i64 (dir x)) ∧ Ext W w') (eg : ∀ args w, (callFunc g args).run Try.prog w = .ok (.enter g args) w)
    (w W : World) (h : SlL w P cap l) (hW : W = (w.alloc (.cells #[.slice P l.length cap] 25)).alloc (.cells #[.func (.func g) #[] #[]] 67)) :
    Calls Try.prog 55 #[.func (.func 80) #[] #[.pointer (some ⟨w.heap.size, 0, none⟩), .pointer (some ⟨w.heap.size + 1, 0, none⟩)]] W fun e w' => (∃ v, e = .returned v ∧ OwnI w' w.heap.size v ((List.range ms.length).map fun i => nthI (o :: ms) (r (i + 1)))) ∧ Ext W w' := by
  have hle := hr.le
  simp only [List.length_cons] at hle
  have hsz : W.heap.size = w.heap.size + 2 := by rw [hW]; simp
  have hx : Ext w W := by rw [hW]; exact ((Ext.refl w).alloc _).alloc _
  have c1 : W.cell? ⟨w.heap.size, 0, none⟩ = some (.slice P l.length cap) := by
    rw [hW]
    exact ((Ext.refl (w.alloc (.cells #[.slice P l.length cap] 25))).alloc _).cell ((World.cell?_alloc_mark _ _ _ _ 0).trans rfl)
  have c2 : W.cell? ⟨w.heap.size + 1, 0, none⟩ = some (.func (.func g) #[] #[]) := by
    rw [hW]
    simp
  refine (collect_any _ _ (fun i => nthI (o :: ms) (r (i + 1))) ms.length _ (members_seq P cap l o ms w.heap.size (w.heap.size + 1) g dir r hlb hr hw hG eg) (enters_of Try.func80 (by kernel_rfl) rfl) (by omega) W ⟨c1, c2, h.ext hx⟩ (fun A B hb hA => ?_)).mono ?_
  · rw [hsz] at hb
    exact ⟨(Below.cell hb (by show w.heap.size < _; omega)).trans hA.1, (Below.cell hb (by show w.heap.size + 1 < _; omega)).trans hA.2.1, h.below hA.2.2 hb (by omega)⟩
  · rintro e w' ⟨⟨v, rfl, ho⟩, hx'⟩
    exact ⟨⟨v, rfl, ho.down (by omega)⟩, hx'⟩
theorem listed_any (P : Option Addr) (cap : Nat) (l : List Lk) (o : Int) (ms : List Int) (hlb : l = builtF o ms) (hr : Right (o :: ms)) (w : World) (h : SlL w P cap l) :
    Calls Try.prog 54 #[.slice P l.length cap] w fun e w' => (∃ v, e = .returned v ∧ OwnI w' w.heap.size v ms) ∧ Ext w w' := by
  have hM := members_any P l.length cap 78 w
  have hC := gathered_any P cap l o ms 78 (fun x => x.2.1) (onR ms.length) hlb hr (way_on hr) on_any (enters_of Try.func78 (by kernel_rfl) rfl) w _ h rfl
  rw [list_on] at hC
  clear hlb
  go_enter Try.func54, Try.ntmps54
  go_wp2_with (first
    | (go_at_call 56; refine hM.mono ?_; rintro e w1 ⟨rfl, rfl⟩)
    | (go_at_call 55; refine hC.mono ?_; rintro e w2 ⟨⟨v, rfl, ho⟩, hx2⟩))
  go_ret
  exact ⟨⟨_, rfl, ho⟩, (((Ext.refl w).alloc _).alloc _).trans hx2⟩
end Go.Proofs.Ythmcdlieglollaa
