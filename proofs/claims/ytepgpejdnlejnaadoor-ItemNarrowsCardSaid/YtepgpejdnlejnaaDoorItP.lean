/- The statements' own words: whether items and rows are small enough. -/
import Derived.Test.YtepgpejdnlejnaaDoorItO
namespace Go.Proofs.YtepgpejdnlejnaaDoor
open Go.RowKit
set_option linter.unusedVariables false
set_option linter.unusedSimpArgs false
set_option linter.unusedSectionVars false
set_option maxRecDepth 20000
attribute [local go_sem] Oper.semAt_some

/-- a slice of rows -/
abbrev Rw := Option Addr × Nat × List Vl
def Rw.cells (x : Rw) : List Value := [.slice x.1 x.2.2.length x.2.1]
def nthRw (l : List Rw) (i : Nat) : Rw := l.getD i (none, 0, [])
theorem nthRw_some {l : List Rw} {i : Nat} (h : i < l.length) : l[i]? = some (nthRw l i) := by simp [nthRw, List.getD_eq_getElem?_getD, h]
theorem rowAt {w : World} {P : Option Addr} {cap : Nat} {l : List Rw} (h : SlG Rw.cells w P cap l) (i : Nat) (hi : i < l.length) :
    ∃ b off, P = some ⟨b, off, none⟩ ∧ w.cell? ⟨b, off + i, none⟩ = some (.slice (nthRw l i).1 (nthRw l i).2.2.length (nthRw l i).2.1) := by
  obtain ⟨b, off, e, h1⟩ := h.at_ i _ (nthRw_some hi)
  refine ⟨b, off, e, ?_⟩
  have := h1 0 _ rfl
  simpa [Rw.cells] using this

set_option maxHeartbeats 4000000 in
theorem litems_any (P : Option Addr) (cap : Nat) (l : List It) (w : World) (h : SlT w P cap l) :
    Calls Tryd.prog 9 #[.slice P l.length cap] w fun e w' => (∃ r : Bool, e = .returned (.bool r)) ∧ w' = w := by
  have hlen := h.len
  go_enter Tryd.func9, Tryd.ntmps9
  go_wp2
  go_loopw [3] (fun i wr => ∃ k : Nat, k ≤ l.length ∧ i = .int .i64 k ∧ wr = w) (fun i _ => l.length - (intOf i).toNat)
  case atStart => exact ⟨0, by omega, rfl, rfl⟩
  case round =>
    obtain ⟨k, hk, rfl, rfl⟩ := hrel
    by_cases hlt : k < l.length
    · obtain ⟨b, off, hP, g0, g1, g2, g3, g4⟩ := h.itemAt k hlt
      subst hP
      have c1 : (k : Int) < l.length := by omega
      have d1 : IntKind.i64.wrap ((k : Int) + 1) = (k : Int) + 1 := IntWalk.i64_in _ ⟨by omega, by omega⟩
      by_cases h20 : (k : Int) < 20
      · by_cases h100 : (100 : Int) < ((nthT l k).1.size : Int)
        · generalize nthT l k = x at *
          go_wp2
          go_ret
          exact ⟨⟨_, rfl⟩, rfl⟩
        · have h100' : decide ((100 : Int) < ((nthT l k).1.size : Int)) = false := decide_eq_false h100
          generalize nthT l k = x at *
          clear h100
          go_wp2
          go_roundw
          case rel => exact ⟨k + 1, by omega, by go_num, by first | trivial | rfl⟩
          case measure => simp [intOf]; omega
      · have h20' : decide ((k : Int) < 20) = false := decide_eq_false h20
        clear h20
        by_cases hl : (l.length : Int) ≤ 20
        · go_wp2
          go_ret
          exact ⟨⟨_, rfl⟩, rfl⟩
        · have hl' : decide ((l.length : Int) ≤ 20) = false := decide_eq_false hl
          clear hl
          go_wp2
          go_ret
          exact ⟨⟨_, rfl⟩, rfl⟩
    · obtain rfl : k = l.length := by omega
      by_cases hl : (l.length : Int) ≤ 20
      · go_wp2
        go_ret
        exact ⟨⟨_, rfl⟩, rfl⟩
      · have hl' : decide ((l.length : Int) ≤ 20) = false := decide_eq_false hl
        clear hl
        go_wp2
        go_ret
        exact ⟨⟨_, rfl⟩, rfl⟩

set_option maxHeartbeats 4000000 in
theorem lrows_any (P : Option Addr) (cap : Nat) (L : List Rw) (w : World) (h : SlG Rw.cells w P cap L) (hr : ∀ x ∈ L, SlV w x.1 x.2.1 x.2.2) :
    Calls Tryd.prog 10 #[.slice P L.length cap] w fun e w' => (∃ r : Bool, e = .returned (.bool r)) ∧ w' = w := by
  have hlen := h.len
  go_enter Tryd.func10, Tryd.ntmps10
  go_wp2
  go_loopw [3, 4] (fun i _ wr => ∃ k : Nat, k ≤ L.length ∧ i = .int .i64 k ∧ wr = w) (fun i _ _ => L.length - (intOf i).toNat)
  case atStart => exact ⟨0, by omega, rfl, rfl⟩
  case round =>
    obtain ⟨k, hk, rfl, rfl⟩ := hrel
    by_cases hlt : k < L.length
    · obtain ⟨b, off, hP, g0⟩ := rowAt h k hlt
      have hx := hr _ (List.mem_of_getElem? (nthRw_some hlt))
      subst hP
      have c1 : (k : Int) < L.length := by omega
      have d1 : IntKind.i64.wrap ((k : Int) + 1) = (k : Int) + 1 := IntWalk.i64_in _ ⟨by omega, by omega⟩
      generalize nthRw L k = R at *
      obtain ⟨Q, c, l⟩ := R
      simp only at g0 hx
      have hlen2 := hx.len
      by_cases h20 : (20 : Int) < (l.length : Int)
      · go_wp2
        go_ret
        exact ⟨⟨_, rfl⟩, rfl⟩
      · have h20' : decide ((20 : Int) < (l.length : Int)) = false := decide_eq_false h20
        obtain ⟨wo, hwo⟩ : ∃ wo : World, wo = wr := ⟨_, rfl⟩
        go_wp2
        go_loopw [4] (fun j wr2 => ∃ m : Nat, m ≤ l.length ∧ j = .int .i64 m ∧ wr2 = wr) (fun j _ => l.length - (intOf j).toNat)
        case atStart => exact ⟨0, by omega, rfl, rfl⟩
        case round =>
          obtain ⟨m, hm, rfl, rfl⟩ := hrel
          by_cases hml : m < l.length
          · obtain ⟨b2, off2, hQ, q0, q1, q2⟩ := hx.valAt m hml
            subst hQ
            have c2 : (m : Int) < l.length := by omega
            have d2 : IntKind.i64.wrap ((m : Int) + 1) = (m : Int) + 1 := IntWalk.i64_in _ ⟨by omega, by omega⟩
            by_cases h200 : (200 : Int) < ((nthV l m).2.2.size : Int)
            · generalize nthV l m = y at *
              go_wp2
              go_ret
              exact ⟨⟨_, rfl⟩, rfl⟩
            · have h200' : decide ((200 : Int) < ((nthV l m).2.2.size : Int)) = false := decide_eq_false h200
              generalize nthV l m = y at *
              clear h200
              go_wp2
              go_roundw
              case rel => exact ⟨m + 1, by omega, by go_num, by first | trivial | rfl⟩
              case measure => simp [intOf]; omega
          · obtain rfl : m = l.length := by omega
            go_wp2
            go_roundw
            case rel => exact ⟨k + 1, by omega, by go_num, by first | trivial | rfl⟩
            case measure => simp [intOf]; omega
    · obtain rfl : k = L.length := by omega
      go_wp2
      go_ret
      exact ⟨⟨_, rfl⟩, rfl⟩
end Go.Proofs.YtepgpejdnlejnaaDoor
