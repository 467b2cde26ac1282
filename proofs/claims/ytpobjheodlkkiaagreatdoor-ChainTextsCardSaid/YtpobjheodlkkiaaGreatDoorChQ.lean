/- Rings: the reference's Built, Make. -/
import Derived.Test.YtpobjheodlkkiaaGreatDoorChP
namespace Go.Proofs.YtpobjheodlkkiaaGreatDoor
open Go.RowKit Go.Sort
set_option linter.unusedVariables false
set_option maxRecDepth 20000
set_option linter.unusedSimpArgs false
set_option linter.unusedSectionVars false
set_option maxRecDepth 20000
attribute [local go_sem] Oper.semAt_some

abbrev OwnL (w : World) (base : Nat) (v : Value) (l : List Lk) : Prop := OwnG Lk.cells 33 4 w base v l
theorem OwnI.some {w : World} {base : Nat} {v : Value} {l : List Int} (h : OwnI w base v l) (hl : 0 < l.length) (h5 : l.length ≤ 100000) : ∃ g c, v = .slice (some ⟨g, 0, none⟩) l.length c ∧ base ≤ g ∧ g < w.heap.size ∧ SlI w (some ⟨g, 0, none⟩) c l := by
  obtain ⟨P, c, e, hs⟩ := h.slG elemI (by omega)
  obtain ⟨g, c', e', h1, h2, _⟩ := h.tight hl
  rw [e] at e'
  injection e' with e1 e2 e3
  subst e1 e3
  exact ⟨g, c, e, h1, h2, hs⟩
theorem tmod_at {a b : Nat} (hb : 0 < b) : ((a : Int)).tmod (b : Int) = ((a % b : Nat) : Int) := by rw [Int.tmod_eq_emod_of_nonneg (by omega)]; omega
theorem one_block {w : World} {n : Nat} (hn : w.heap.size = n) (x : Int) : SlI (w.alloc (.cells #[.int .i64 x] 3)) (some ⟨n, 0, none⟩) 1 [x] := SlG.one elemI.hk x rfl hn.symm

/-- what Make tells of an owner and members -/
def makeE (o : Int) (ms : List Int) : Int := if okB (o :: ms) = true then (if ms.length < 500 then 0 else 4) else 1
def makeL (o : Int) (ms : List Int) : List Lk := if makeE o ms = 0 then builtF o ms else []
theorem make_cases (o : Int) (ms : List Int) : (okB (o :: ms) = false ∧ makeE o ms = 1 ∧ makeL o ms = []) ∨ (okB (o :: ms) = true ∧ 500 ≤ ms.length ∧ makeE o ms = 4 ∧ makeL o ms = []) ∨ (okB (o :: ms) = true ∧ ms.length < 500 ∧ makeE o ms = 0 ∧ makeL o ms = builtF o ms ∧ Right (o :: ms)) := by
  cases h : okB (o :: ms) with
  | false => exact .inl ⟨rfl, by simp [makeE, h], by simp [makeL, makeE, h]⟩
  | true =>
    by_cases h5 : ms.length < 500
    · exact .inr (.inr ⟨rfl, h5, by simp [makeE, h, h5], by simp [makeL, makeE, h, h5], okB_right.2 ⟨h, by simp; omega⟩⟩)
    · exact .inr (.inl ⟨rfl, by omega, by simp [makeE, h, h5], by simp [makeL, makeE, h, h5]⟩)

end Go.Proofs.YtpobjheodlkkiaaGreatDoor
