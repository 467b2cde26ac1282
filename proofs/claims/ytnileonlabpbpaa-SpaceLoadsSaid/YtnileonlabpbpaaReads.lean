/- PageReads returns true. -/
import Derived.Test.YtnileonlabpbpaaReadF
namespace Go.Proofs.Ytnileonlabpbpaa
open Go.RowKit
set_option linter.unusedVariables false
set_option maxRecDepth 20000

/-- a slice of ints, read -/
structure IntS (w : World) (A : Option Addr) (n : Nat) (g : Nat → Int) : Prop where
  at_ : ∀ i, i < n → ∃ b off, A = some ⟨b, off, none⟩ ∧ w.cell? ⟨b, off + i, none⟩ = some (.int .i64 (g i))
theorem IntS.ext {w w' : World} {A : Option Addr} {n : Nat} {g : Nat → Int} (h : IntS w A n g) (he : Ext w w') : IntS w' A n g :=
  ⟨fun i hi => by obtain ⟨b, off, e, h1⟩ := h.at_ i hi; exact ⟨b, off, e, he.cell h1⟩⟩
theorem intS_of_row {w : World} {base : Nat} {v : Value} {l : List Cel} (h : w.ownsRow base 3 1 v l.length (flatI l)) : ∃ A cap, v = .slice A l.length cap ∧ IntS w A l.length (fun i => (nthC l i).1) := by
  rcases h.2 with ⟨hv, h0⟩ | ⟨g, cap, cur, hv, _⟩
  · exact ⟨none, 0, by rw [hv, h0], ⟨fun i hi => by omega⟩⟩
  · subst hv
    refine ⟨some ⟨g, 0, none⟩, cap, rfl, ⟨fun i hi => ⟨g, 0, rfl, ?_⟩⟩⟩
    have := h.cellAt i (by omega)
    rw [Nat.zero_add, this]
    simp [flatI, nthC, List.getD_eq_getElem?_getD, List.getElem?_eq_getElem hi]



theorem wrong_both (p : ByteArray) (hp : p.size ≤ 140737488355328) : ∃ a e : Int,
    (∀ w, Calls Try.prog 16 #[.string p] w fun e' w' => e' = .returned (.tuple #[.int .i64 a, .int .i64 e]) ∧ Ext w w') ∧
    (∀ w, Calls Try.prog 20 #[.string p] w fun e' w' => e' = .returned (.tuple #[.int .i64 a, .int .i64 e]) ∧ Ext w w') := by
  obtain ⟨a, e, hw, _⟩ := wrong_any p default hp
  refine ⟨a, e, fun w => ?_, fun w => ?_⟩
  · obtain ⟨b, g, hw', hc⟩ := wrong_any p w hp
    obtain ⟨rfl, rfl⟩ := hw.uniq hw'
    exact hc
  · obtain ⟨b, g, hw', hc⟩ := refWrong_any p w hp
    obtain ⟨rfl, rfl⟩ := hw.uniq hw'
    exact hc

theorem fill_of (p : ByteArray) (hv : ValidR p) (A : Option Addr) (cap : Nat) (w : World) (hs : SlC w A (cnt p) (cel p)) :
    Calls Try.prog 32 #[.int .i64 p.size, .slice A (cnt p) cap] w fun e w' => e = .returned (.tuple #[.string p, .int .i64 0]) ∧ Ext w w' := by
  have hz := sizes_of hv
  have hg := cel_good hv
  have := fill_any p.size A cap (cnt p) (cel p) w (by omega) (by omega) (cnt_le hv) hs (cel_size hv) (fun i hi => by have := good_at hg i hi; omega)
  rw [fill_cells hv] at this
  exact this


end Go.Proofs.Ytnileonlabpbpaa
