/- Rings: Owner, Members, Back, Count of both. -/
import Derived.Test.YtpobjheodlkkiaaGreatDoorChN
namespace Go.Proofs.YtpobjheodlkkiaaGreatDoor
open Go.RowKit Go.Sort
set_option linter.unusedVariables false
set_option maxRecDepth 20000
set_option linter.unusedSimpArgs false
set_option linter.unusedSectionVars false
set_option maxRecDepth 20000
attribute [local go_sem] Oper.semAt_some

/-- links are no ring, or one of an owner and members -/
theorem ring_cases (l : List Lk) : (validB l = false ∧ memF l = [] ∧ errF l = 1) ∨ ∃ o ms, l = builtF o ms ∧ Right (o :: ms) ∧ validB l = true ∧ own l = o ∧ memF l = ms ∧ errF l = 0 ∧ l.length = ms.length + 1 := by
  cases hv : validB l with
  | false => exact .inl ⟨rfl, memF_no hv, by simp [errF, hv]⟩
  | true =>
    obtain ⟨o, ms, h1, h2, h3⟩ := validB_is hv
    exact .inr ⟨o, ms, h1, h2, rfl, h3, by rw [h1]; exact memF_built h2, by simp [errF, hv], by rw [h1]; exact built_len o ms⟩
theorem own_cell {w : World} {P : Option Addr} {cap : Nat} {l : List Lk} (h : SlL w P cap l) (h0 : 0 < l.length) : ∃ b off, P = some ⟨b, off, none⟩ ∧ w.cell? ⟨b, off + 3, none⟩ = some (.int .i64 (own l)) := by
  obtain ⟨b0, off0, hP0, _, _, _, z3⟩ := h.lkAt 0 h0
  simp only [Nat.zero_mul, Nat.add_zero] at z3
  exact ⟨b0, off0, hP0, z3⟩
def ownF' (l : List Lk) : Int := if validB l = true then own l else 0
def cntF (l : List Lk) : Int := if validB l = true then (l.length : Int) - 1 else 0









set_option maxHeartbeats 4000000 in
theorem samelinks_yes (P Q : Option Addr) (c d : Nat) (l : List Lk) (w : World) (h : SlL w P c l) (h2 : SlL w Q d l) :
    Calls Tryz.prog 8 #[.slice P l.length c, .slice Q l.length d] w fun e w' => e = .returned (.bool true) ∧ Ext w w' := by
  have hlen := h.len
  go_enter Tryz.func8, Tryz.ntmps8
  go_wp2
  go_loopw [5] (fun i wr => ∃ k : Nat, k ≤ l.length ∧ i = .int .i64 k ∧ Ext w wr) (fun i _ => l.length - (intOf i).toNat)
  case atStart => exact ⟨0, by omega, rfl, Ext.refl w⟩
  case round =>
    obtain ⟨k, hk, rfl, hx⟩ := hrel
    by_cases hlt : k < l.length
    · obtain ⟨b, off, hP, g0, g1, g2, g3⟩ := h.lkAt k hlt
      obtain ⟨b2, off2, hQ, q0, q1, q2, q3⟩ := h2.lkAt k hlt
      subst hP
      subst hQ
      have g0 := hx.cell g0
      have g1 := hx.cell g1
      have g2 := hx.cell g2
      have g3 := hx.cell g3
      have q0 := hx.cell q0
      have q1 := hx.cell q1
      have q2 := hx.cell q2
      have q3 := hx.cell q3
      have c1 : (k : Int) < l.length := by omega
      have d1 : IntKind.i64.wrap ((k : Int) + 1) = (k : Int) + 1 := IntWalk.i64_in _ ⟨by omega, by omega⟩
      have hG := fun (op : BinOp) (u v : Operand) (xs ys : Array Value) (W : World) => run_eqGuard_agg (P := Tryz.prog) W op 33 u v xs ys (by kernel_rfl)
      generalize nthL l k = x at *
      go_wp2
      go_quiet (fail)
      go_wp2
      go_roundw
      case rel => exact ⟨k + 1, by omega, by go_num, hx.drewN _⟩
      case measure => simp [intOf]; omega
    · obtain rfl : k = l.length := by omega
      go_wp2
      go_ret
      exact ⟨rfl, hx⟩
end Go.Proofs.YtpobjheodlkkiaaGreatDoor
