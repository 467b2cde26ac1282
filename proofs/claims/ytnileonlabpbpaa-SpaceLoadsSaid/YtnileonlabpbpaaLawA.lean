/- Contracts of page.cells, page.Cells and of the statements' own helpers. -/
import Derived.Test.YtnileonlabpbpaaMathB
import Derived.Deep.RegionHeld3
namespace Go.Proofs.Ytnileonlabpbpaa
open Go.RowKit
set_option linter.unusedVariables false
set_option maxRecDepth 20000

/-- cell i of a list -/
def nthC (l : List Cel) (i : Nat) : Cel := l.getD i (0, ⟨#[]⟩)
theorem flatC_get (l : List Cel) : ∀ i, i < l.length → (flatC l)[i * 2]? = some (.int .i64 (nthC l i).1) ∧ (flatC l)[i * 2 + 1]? = some (.string (nthC l i).2) := by
  induction l with
  | nil => intro i hi; simp at hi
  | cons c l ih =>
    intro i hi
    cases i with
    | zero => simp [flatC, nthC]
    | succ i =>
      have := ih i (by simpa using hi)
      have e : (i + 1) * 2 = i * 2 + 1 + 1 := by omega
      rw [e]
      simpa [flatC, nthC] using this
theorem slC_of_row {w : World} {base : Nat} {v : Value} {l : List Cel} (h : w.ownsRow base 85 2 v l.length (flatC l)) : ∃ A cap, v = .slice A l.length cap ∧ SlC w A l.length (nthC l) := by
  rcases h.2 with ⟨hv, h0⟩ | ⟨g, cap, cur, hv, _⟩
  · exact ⟨none, 0, by rw [hv, h0], ⟨fun i hi => by omega⟩⟩
  · subst hv
    refine ⟨some ⟨g, 0, none⟩, cap, rfl, ⟨fun i hi => ⟨g, 0, rfl, ?_, ?_⟩⟩⟩
    · have := h.cellAt (i * 2) (by omega)
      rw [Nat.zero_add, this]; exact (flatC_get l i hi).1
    · have := h.cellAt (i * 2 + 1) (by omega)
      rw [Nat.zero_add, this]; exact (flatC_get l i hi).2

theorem cells_any (p : ByteArray) (w : World) (hv : ValidR p) :
    Calls Try.prog 48 #[.string p] w fun e w' => ∃ A cap, e = .returned (.slice A (usedL p (twoF p 0)).length cap) ∧ SlC w' A (usedL p (twoF p 0)).length (nthC (usedL p (twoF p 0))) ∧ Ext w w' := by
  have hz : 32 ≤ p.size ∧ p.size ≤ 4096 := by have := hv.1.1; simp [sizeB] at this; omega
  have hc : (w.alloc (.cells #[.string p] 9)).cell? ⟨w.heap.size, 0, none⟩ = some (.string p) := (Boxed.new w 9 (.string p)).cell
  have hmf : ∀ (fn : Fn) (first cap : Array Value) (w : World), (Instr.makeFunc fn first cap).run Try.prog w = .ok (.func fn first cap) w := fun _ _ _ _ => rfl
  go_enter Try.func48, Try.ntmps48
  go_wp2_with (go_at_call 59; refine (gather_any p _ _ hz.1 hz.2 hv.1.2.2 hc (fun k hk => slot_le hv k hk)).mono ?_; rintro e w1 ⟨v, rfl, hown, hx⟩)
  obtain ⟨A, cap, rfl, hs⟩ := slC_of_row hown
  go_wp2
  go_ret
  exact ⟨A, cap, rfl, hs, ((Ext.refl w).alloc _).trans hx⟩



/-- cells that are not too large to look at -/
def smallB (n : Nat) (f : Nat → Cel) : Bool := decide (n ≤ 60) && decide (bytesF f n ≤ 6000)

theorem toList_ne {a b : ByteArray} (h : a ≠ b) : (a.toList == b.toList) = false := by
  cases hb : (a.toList == b.toList) with
  | false => rfl
  | true =>
    have he : a.toList = b.toList := eq_of_beq hb
    rw [Lib.toList_data, Lib.toList_data] at he
    exact absurd (ByteArray.ext (Array.toList_inj.1 he)) h



/-- the one cell of the example -/
def awakeF (i : Nat) : Cel := (1, ⟨#[97, 98]⟩)
def awakeP : ByteArray := ⟨#[0, 1, 0, 30, 0, 2, 0, 0, 0, 0, 0, 0, 0, 0, 0, 0, 0, 0, 0, 0, 0, 0, 0, 0, 0, 0, 0, 0, 0, 0, 97, 98]⟩
theorem awake_fill : fillRes 32 1 awakeF = (awakeP, 0) := by
  have h1 : ¬ AnyBad awakeF 1 := by
    rintro ⟨i, hi, hb⟩
    obtain rfl : i = 0 := by omega
    unfold BadF awakeF at hb
    simp at hb
    revert hb
    decide
  have h2 : ¬ sizeB 32 = false := by decide
  have h3 : ¬ roomF 32 awakeF 1 < 0 := by decide
  simp only [fillRes, h1, h2, h3, if_false]
  rfl
theorem fill_awake (A : Option Addr) (w : World) (hs : SlC w A 1 awakeF) :
    Calls Try.prog 32 #[.int .i64 32, .slice A 1 1] w fun e w' => e = .returned (.tuple #[.string awakeP, .int .i64 0]) ∧ Ext w w' :=
  (fill_any 32 A 1 1 awakeF w (by omega) (by omega) (by omega) hs (fun i hi => by show 2 ≤ _; omega) (fun i hi => ⟨by show _ ≤ (1 : Int); omega, by show (1 : Int) ≤ _; omega⟩)).mono fun e w' h => by
    rw [awake_fill] at h
    exact h



end Go.Proofs.Ytnileonlabpbpaa
