/- Rings: chain.Wrong. -/
import Derived.Test.YtpobjheodlkkiaaGreatDoorChF
import Derived.StillTailTactics
namespace Go.Proofs.YtpobjheodlkkiaaGreatDoor
open Go.RowKit
set_option linter.unusedVariables false
set_option maxRecDepth 20000
set_option linter.unusedSimpArgs false
set_option linter.unusedSectionVars false
set_option maxRecDepth 20000
attribute [local go_sem] Oper.semAt_some

/-- what Wrong tells, as a value -/
def wrongV (x : Int × Int × Int) : Value := .tuple #[.int .i64 x.1, .int .i64 x.2.1, .int .i64 x.2.2]
theorem elemB : ElemG (fun x : Bool => [.bool x]) 75 4 1 1 where
  ht := Tryz.underlying75
  info := by
    have h : (Tryz.prog.info? 4).map (fun i => (i.zero, i.size, i.bytes)) = some (some (.bool false), 1, 1) := by kernel_rfl
    cases hq : Tryz.prog.info? 4 with
    | none => simp [hq] at h
    | some i => simp [hq] at h; exact ⟨i, _, rfl, h.1, h.2.1, h.2.2, rfl⟩
  k0 := by omega
  hk := fun _ => rfl
  one := fun x u hu => by
    simp at hu
    subst hu; rfl
theorem bool_zero : ∃ i, Tryz.prog.info? 4 = some i ∧ i.zero = some (.bool false) ∧ i.size = 1 ∧ i.bytes = 1 := by
  have h : (Tryz.prog.info? 4).map (fun i => (i.zero, i.size, i.bytes)) = some (some (.bool false), 1, 1) := by kernel_rfl
  cases hq : Tryz.prog.info? 4 with
  | none => simp [hq] at h
  | some i => simp [hq] at h; exact ⟨i, rfl, h.1, h.2.1, h.2.2⟩
abbrev OwnB (w : World) (base : Nat) (v : Value) (l : List Bool) : Prop := OwnG (fun x : Bool => [.bool x]) 4 1 w base v l
def nthB (l : List Bool) (i : Nat) : Bool := l.getD i false
theorem nthB_some {l : List Bool} {i : Nat} (h : i < l.length) : l[i]? = some (nthB l i) := by simp [nthB, List.getD_eq_getElem?_getD, h]
theorem nthB_set {l : List Bool} {i j : Nat} {b : Bool} (h : i < l.length) : nthB (l.set i b) j = if i = j then b else nthB l j := by
  unfold nthB
  rw [List.getD_eq_getElem?_getD, List.getD_eq_getElem?_getD, List.getElem?_set]
  by_cases e : i = j
  · subst e; simp [h]
  · rw [if_neg e, if_neg e]
theorem nthI_set {l : List Int} {i j : Nat} {b : Int} (h : i < l.length) : nthI (l.set i b) j = if i = j then b else nthI l j := by
  unfold nthI
  rw [List.getD_eq_getElem?_getD, List.getD_eq_getElem?_getD, List.getElem?_set]
  by_cases e : i = j
  · subst e; simp [h]
  · rw [if_neg e, if_neg e]
/-- the first false one -/
theorem indexb_any (P : Option Addr) (cap : Nat) (l : List Bool) (w : World) (h : SlG (fun x : Bool => [.bool x]) w P cap l) :
    Calls Tryz.prog 40 #[.slice P l.length cap, .bool false] w fun e w' => ((∃ k : Nat, e = .returned (.int .i64 k) ∧ k < l.length ∧ nthB l k = false ∧ ∀ j, j < k → nthB l j = true) ∨ (e = .returned (.int .i64 (-1)) ∧ ∀ j, j < l.length → nthB l j = true)) ∧ w' = w := by
  have hlen := h.len
  go_enter Tryz.func40, Tryz.ntmps40
  go_wp2
  go_loopw [8, 5] (fun i _ wr => ∃ q : Nat, q ≤ l.length ∧ i = .int .i64 q ∧ (∀ j : Nat, j < q → nthB l j = true) ∧ wr = w) (fun i _ _ => l.length - (intOf i).toNat)
  case atStart => exact ⟨0, by omega, rfl, by intro j hj; omega, rfl⟩
  case round =>
    obtain ⟨q, hk, rfl, hall, rfl⟩ := hrel
    by_cases hlt : q < l.length
    · obtain ⟨b, off, hP, h1⟩ := h.at_ q _ (nthB_some hlt)
      have g0 := h1 0 _ rfl
      simp only [List.length_singleton, Nat.mul_one, Nat.add_zero] at g0
      subst hP
      have c1 : (q : Int) < l.length := by omega
      have d1 : IntKind.i64.wrap ((q : Int) + 1) = (q : Int) + 1 := IntWalk.i64_in _ ⟨by omega, by omega⟩
      clear h1
      cases he : nthB l q with
      | false =>
        have HA := Lib.hid hall
        have HE := Lib.hid he
        rw [he] at g0
        clear hall he
        go_wp2
        go_ret
        exact ⟨.inl ⟨q, rfl, hlt, HE.out, HA.out⟩, by trivial⟩
      | true =>
        have Hy : Hid (∀ j : Nat, j < q + 1 → nthB l j = true) := Lib.hid (fun j hj => by
          by_cases hjk : j = q
          · subst hjk; exact he
          · exact hall j (by omega))
        rw [he] at g0
        clear hall he
        go_wp2
        go_roundw
        case rel => exact ⟨q + 1, by omega, by go_num, Hy.out, by trivial⟩
        case measure => simp [intOf]; omega
    · obtain rfl : q = l.length := by omega
      have HA := Lib.hid hall
      clear hall
      go_wp2
      go_ret
      exact ⟨.inr ⟨rfl, HA.out⟩, by trivial⟩
theorem indexb_all (P : Option Addr) (cap n : Nat) (l : List Bool) (w : World) (h : SlG (fun x : Bool => [.bool x]) w P cap l) (hn : l.length = n) (ha : ∀ j, j < n → nthB l j = true) :
    Calls Tryz.prog 40 #[.slice P n cap, .bool false] w fun e w' => e = .returned (.int .i64 (-1)) ∧ w' = w := by
  subst hn
  refine (indexb_any P cap l w h).mono fun e w' hh => ?_
  obtain ⟨⟨k, _, hk, hf, _⟩ | ⟨he, _⟩, hw⟩ := hh
  · rw [ha k hk] at hf; cases hf
  · exact ⟨he, hw⟩
theorem indexb_no (P : Option Addr) (cap n : Nat) (l : List Bool) (w : World) (h : SlG (fun x : Bool => [.bool x]) w P cap l) (hn : l.length = n) (ha : ¬ ∀ j, j < n → nthB l j = true) :
    Calls Tryz.prog 40 #[.slice P n cap, .bool false] w fun e w' => (∃ k : Nat, e = .returned (.int .i64 k) ∧ k < n ∧ nthB l k = false ∧ ∀ j, j < k → nthB l j = true) ∧ w' = w := by
  subst hn
  refine (indexb_any P cap l w h).mono fun e w' hh => ?_
  obtain ⟨hh | ⟨_, he⟩, hw⟩ := hh
  · exact ⟨hh, hw⟩
  · exact absurd he ha
end Go.Proofs.YtpobjheodlkkiaaGreatDoor
