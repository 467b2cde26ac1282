/- The statements' sanity check. -/
import Derived.Test.YtepgpejdnlejnaaDoorItV
import Derived.Test.YtepgpejdnlejnaaDoorItQ
namespace Go.Proofs.YtepgpejdnlejnaaDoor
open Go.RowKit
set_option linter.unusedVariables false
set_option linter.unusedSimpArgs false
set_option linter.unusedSectionVars false
set_option maxRecDepth 100000
attribute [local go_sem] Oper.semAt_some

def rowA : List Vl := [(1, -5, ⟨#[]⟩), (2, 0, ⟨#[97, 34, 98]⟩)]
theorem rowA_ok : rowB rowA = true := by decide +kernel
theorem rowA_text : textL rowA = [45, 53, 44, 34, 97, 92, 34, 98, 34] := by
  unfold textL
  rw [if_pos rowA_ok]
  have h1 : wrL (1, -5, ⟨#[]⟩) = [45, 53] := by
    unfold wrL
    rw [if_pos rfl]
    unfold Lib.itoa
    rw [if_pos (by decide), show ((-5 : Int)).natAbs = 5 from rfl, Lib.decDigits_one (by omega)]
    rfl
  have h2 : wrL (2, 0, ⟨#[97, 34, 98]⟩) = [34, 97, 92, 34, 98, 34] := by decide +kernel
  unfold rowA
  rw [List.map_cons, List.map_cons, List.map_nil, h1, h2]
  decide +kernel
theorem slV_two {w : World} {t : TypeId} : SlV (w.alloc (.cells #[.int .i64 1, .int .i64 (-5), .string ⟨#[]⟩, .int .i64 2, .int .i64 0, .string ⟨#[97, 34, 98]⟩] t)) (some ⟨w.heap.size, 0, none⟩) 2 rowA := by
  refine ⟨fun i x hi => ⟨_, _, rfl, fun j v hj => ?_⟩, by simp [rowA], by omega⟩
  have key := box1 (Ext.refl (w.alloc (.cells #[.int .i64 1, .int .i64 (-5), .string ⟨#[]⟩, .int .i64 2, .int .i64 0, .string ⟨#[97, 34, 98]⟩] t)))
  match i, hi with
  | 0, hi =>
    simp [rowA] at hi
    subst hi
    match j, hj with
    | 0, hj => simp [Vl.cells] at hj; subst hj; exact key 0 _ rfl
    | 1, hj => simp [Vl.cells] at hj; subst hj; exact key 1 _ rfl
    | 2, hj => simp [Vl.cells] at hj; subst hj; exact key 2 _ rfl
    | j + 3, hj => simp [Vl.cells] at hj
  | 1, hi =>
    simp [rowA] at hi
    subst hi
    match j, hj with
    | 0, hj => simp [Vl.cells] at hj; subst hj; exact key 3 _ rfl
    | 1, hj => simp [Vl.cells] at hj; subst hj; exact key 4 _ rfl
    | 2, hj => simp [Vl.cells] at hj; subst hj; exact key 5 _ rfl
    | j + 3, hj => simp [Vl.cells] at hj
  | i + 2, hi => simp [rowA] at hi
theorem awake_any (w : World) (ht : Tab w) : Calls Tryd.prog 11 #[] w fun e w' => e = .returned (.bool true) ∧ Ext w w' := by
  have hT := fun t => text_any (some ⟨w.heap.size, 0, none⟩) 2 rowA _ (slV_two (w := w) (t := t)) (ht.ext ((Ext.refl w).alloc _))
  rw [rowA_text] at hT
  go_enter Tryd.func11, Tryd.ntmps11
  go_wp2_with (go_at_call 44; refine (hT _).mono ?_; rintro e w1 ⟨rfl, hx1⟩)
  go_ret
  exact ⟨by first | rfl | (simp; done) | (simp; decide), ((Ext.refl w).alloc _).trans hx1⟩
end Go.Proofs.YtepgpejdnlejnaaDoor
