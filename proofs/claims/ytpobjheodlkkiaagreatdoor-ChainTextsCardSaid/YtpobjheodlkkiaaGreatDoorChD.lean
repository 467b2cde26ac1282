/- Rings: a key, the place of a key, of both. -/
import Derived.Test.YtpobjheodlkkiaaGreatDoorGen
import Derived.Test.YtpobjheodlkkiaaGreatDoorChC
import Derived.Laws.EntriesVeiled
import Derived.Laws.StructEq
import Derived.Laws.Tables
import Derived.Laws.Cover2
import Derived.KernelRfl
import Derived.Deep.LoopGhost
namespace Go.Proofs.YtpobjheodlkkiaaGreatDoor
open Go.RowKit
set_option linter.unusedVariables false
set_option maxRecDepth 20000
set_option linter.unusedSimpArgs false
set_option linter.unusedSectionVars false
set_option maxRecDepth 20000
attribute [local go_sem] Oper.semAt_some

def Lk.cells (x : Lk) : List Value := [.int .i64 x.1, .int .i64 x.2.1, .int .i64 x.2.2.1, .int .i64 x.2.2.2]
def Lk.v (x : Lk) : Value := .agg #[.int .i64 x.1, .int .i64 x.2.1, .int .i64 x.2.2.1, .int .i64 x.2.2.2]
abbrev SlL := @SlG Lk Lk.cells
theorem SlG.lkAt {w : World} {P : Option Addr} {cap : Nat} {l : List Lk} (h : SlL w P cap l) (i : Nat) (hi : i < l.length) :
    ∃ b off, P = some ⟨b, off, none⟩ ∧ w.cell? ⟨b, off + i * 4, none⟩ = some (.int .i64 (nthL l i).1) ∧ w.cell? ⟨b, off + i * 4 + 1, none⟩ = some (.int .i64 (nthL l i).2.1) ∧ w.cell? ⟨b, off + i * 4 + 2, none⟩ = some (.int .i64 (nthL l i).2.2.1) ∧ w.cell? ⟨b, off + i * 4 + 3, none⟩ = some (.int .i64 (nthL l i).2.2.2) := by
  obtain ⟨b, off, e, h1⟩ := h.at_ i _ (nthL_some hi)
  exact ⟨b, off, e, h1 0 _ rfl, h1 1 _ rfl, h1 2 _ rfl, h1 3 _ rfl⟩
theorem elemL : ElemG Lk.cells 22 33 4 32 where
  ht := Tryz.underlying22
  info := by
    have h : (Tryz.prog.info? 33).map (fun i => (i.zero, i.size, i.bytes)) = some (some (.agg #[.int .i64 0, .int .i64 0, .int .i64 0, .int .i64 0]), 4, 32) := by kernel_rfl
    cases hq : Tryz.prog.info? 33 with
    | none => simp [hq] at h
    | some i => simp [hq] at h; exact ⟨i, _, rfl, h.1, h.2.1, h.2.2, rfl⟩
  k0 := by omega
  hk := fun _ => rfl
  one := fun x u hu => by
    simp [Lk.cells] at hu
    rcases hu with rfl | rfl | rfl | rfl <;> rfl

theorem key_any (n : Int) (w : World) : Calls Tryz.prog 24 #[.int .i64 n] w fun e w' => e = .returned (.bool (keyB n)) ∧ w' = w := by
  unfold keyB
  by_cases h1 : 1 ≤ n
  · rw [show decide (1 ≤ n ∧ n ≤ 1000000) = decide (n ≤ 1000000) from by simp [h1]]
    go_enter Tryz.func24, Tryz.ntmps24
    go_wp2
    go_ret
    exact ⟨rfl, rfl⟩
  · rw [show decide (1 ≤ n ∧ n ≤ 1000000) = false from by simp [h1]]
    have h1' : decide (1 ≤ n) = false := decide_eq_false h1
    clear h1
    go_enter Tryz.func24, Tryz.ntmps24
    go_wp2
    go_ret
    exact ⟨rfl, rfl⟩
theorem rkey_any (n : Int) (w : World) : Calls Tryz.prog 43 #[.int .i64 n] w fun e w' => e = .returned (.bool (keyB n)) ∧ w' = w := by
  unfold keyB
  by_cases h1 : 1 ≤ n
  · rw [show decide (1 ≤ n ∧ n ≤ 1000000) = decide (n ≤ 1000000) from by simp [h1]]
    go_enter Tryz.func43, Tryz.ntmps43
    go_wp2
    go_ret
    exact ⟨rfl, rfl⟩
  · rw [show decide (1 ≤ n ∧ n ≤ 1000000) = false from by simp [h1]]
    have h1' : decide (1 ≤ n) = false := decide_eq_false h1
    clear h1
    go_enter Tryz.func43, Tryz.ntmps43
    go_wp2
    go_ret
    exact ⟨rfl, rfl⟩
theorem at_any (P : Option Addr) (cap : Nat) (l : List Lk) (k : Int) (w : World) (h : SlL w P cap l) :
    Calls Tryz.prog 44 #[.slice P l.length cap, .int .i64 k] w fun e w' => e = .returned (.int .i64 (idxI (ks l) k)) ∧ w' = w := by
  have hlen := h.len
  go_enter Tryz.func44, Tryz.ntmps44
  go_wp2
  go_loopw [5] (fun i wr => ∃ q : Nat, q ≤ l.length ∧ i = .int .i64 q ∧ (∀ j : Nat, j < q → (nthL l j).1 ≠ k) ∧ wr = w) (fun i _ => l.length - (intOf i).toNat)
  case atStart => exact ⟨0, by omega, rfl, by intro j hj; omega, rfl⟩
  case round =>
    obtain ⟨q, hk, rfl, hall, rfl⟩ := hrel
    by_cases hlt : q < l.length
    · obtain ⟨b, off, hP, g0, g1, g2, g3⟩ := h.lkAt q hlt
      subst hP
      have c1 : (q : Int) < l.length := by omega
      have d1 : IntKind.i64.wrap ((q : Int) + 1) = (q : Int) + 1 := IntWalk.i64_in _ ⟨by omega, by omega⟩
      by_cases he : (nthL l q).1 = k
      · have Hn : Hid (idxI (ks l) k = q) := Lib.hid (idxI_at _ _ q (by rw [ks_len]; exact hlt) (fun j hj => by rw [ks_at (by omega)]; exact hall j hj) (by rw [ks_at hlt]; exact he))
        have he' : ((nthL l q).1 == k) = true := by simpa using he
        generalize nthL l q = x at *
        clear hall he
        go_wp2
        go_ret
        exact ⟨by rw [Hn.out]; rfl, by trivial⟩
      · have Hy : Hid (∀ j : Nat, j < q + 1 → (nthL l j).1 ≠ k) := Lib.hid (fun j hj => by
          by_cases hjk : j = q
          · subst hjk; exact he
          · exact hall j (by omega))
        have he' : ((nthL l q).1 == k) = false := by simpa using he
        generalize nthL l q = x at *
        clear hall he
        go_wp2
        go_roundw
        case rel => exact ⟨q + 1, by omega, by go_num, Hy.out, by trivial⟩
        case measure => simp [intOf]; omega
    · obtain rfl : q = l.length := by omega
      have Hn : Hid (idxI (ks l) k = -1) := Lib.hid (idxI_no _ _ (fun j hj => by rw [ks_len] at hj; rw [ks_at hj]; exact hall j hj))
      clear hall
      go_wp2
      go_ret
      exact ⟨by rw [Hn.out]; rfl, by trivial⟩

theorem findf_any (x : Lk) (k : Int) (w : World) : Calls Tryz.prog 59 #[x.v, .int .i64 k] w fun e w' => e = .returned (.int .i64 (wrap64 (x.1 - k))) ∧ Ext w w' := by
  obtain ⟨a, b, c, d⟩ := x
  show Calls _ _ #[.agg #[.int .i64 a, .int .i64 b, .int .i64 c, .int .i64 d], .int .i64 k] _ _
  go_enter Tryz.func59, Tryz.ntmps59
  go_wp2
  go_ret
  exact ⟨by first | rfl | (simp; done), (Ext.refl w).alloc _⟩
end Go.Proofs.YtpobjheodlkkiaaGreatDoor
