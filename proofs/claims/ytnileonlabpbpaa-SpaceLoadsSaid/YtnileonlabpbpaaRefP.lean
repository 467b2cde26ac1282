/- reference: what With gives; changed, line, Get, Put, PutAt, Set, Drop, Resize of a valid page. -/
import Derived.Test.YtnileonlabpbpaaWith
namespace Go.Proofs.Ytnileonlabpbpaa
open Go.RowKit
set_option linter.unusedVariables false
set_option maxRecDepth 20000

def listF (f : Nat → Cel) (n : Nat) : List Cel := (List.range n).map f
theorem listF_succ (f : Nat → Cel) (n : Nat) : listF f (n + 1) = listF f n ++ [f n] := by simp [listF, List.range_succ]
theorem listF_length (f : Nat → Cel) (n : Nat) : (listF f n).length = n := by simp [listF]
theorem listF_congr {f g : Nat → Cel} {n : Nat} (h : ∀ i, i < n → f i = g i) : listF f n = listF g n := by
  unfold listF
  exact List.map_congr_left (fun i hi => h i (List.mem_range.1 hi))
theorem nthC_listF (f : Nat → Cel) (n i : Nat) (h : i < n) : nthC (listF f n) i = f i := by simp [nthC, listF, List.getD_eq_getElem?_getD, h]
theorem SlC.congr {w : World} {A : Option Addr} {n : Nat} {f g : Nat → Cel} (h : SlC w A n f) (e : ∀ i, i < n → f i = g i) : SlC w A n g :=
  ⟨fun i hi => by rw [← e i hi]; exact h.at_ i hi⟩

theorem with_low {f : Nat → Cel} {n : Nat} {x : Int} {pos : Nat} (hp : PosI n f x pos) (s : ByteArray) : ∀ k, k ≤ pos → withW f x s k = (listF f k, s.toList.isEmpty) := by
  intro k
  induction k with
  | zero => intro _; simp [withW, listF]
  | succ k ih =>
    intro hk
    have h1 := ih (by omega)
    have h2 := hp.below k (by omega)
    unfold withW
    rw [h1, if_neg (by intro h; omega), if_neg (by omega), listF_succ]
section
variable {f : Nat → Cel} {n : Nat} {x : Int} {pos : Nat} (hg : ¬ AnyBad f n) (hp : PosI n f x pos) (s : ByteArray)
include hg hp
theorem with_miss (he : ¬ (pos < n ∧ (f pos).1 = x)) (hs : s.toList.isEmpty = false) : withL f x s n = listF (insF f pos (x, s)) (n + 1) := by
  have hle := hp.le
  have hlow := with_low hp s pos (Nat.le_refl _)
  have hi : ∀ k, k ≤ pos → listF f k = listF (insF f pos (x, s)) k := fun k hk => listF_congr (fun i hi => by unfold insF; rw [if_pos (by omega)])
  have hall : ∀ k, pos < k → k ≤ n → withW f x s k = (listF (insF f pos (x, s)) (k + 1), true) := by
    intro k
    induction k with
    | zero => intro h; omega
    | succ k ih =>
      intro h1 h2
      have h3 := hp.above k (by omega) (by omega)
      by_cases hk : k = pos
      · subst hk
        have hne : ¬ (f k).1 = x := fun e => he ⟨by omega, e⟩
        unfold withW
        rw [hlow, if_pos ⟨hs, h3⟩, if_neg hne, listF_succ, listF_succ, ← hi k (Nat.le_refl _)]
        simp [insF]
        omega
      · have h4 := ih (by omega) (by omega)
        have hne : ¬ (f k).1 = x := by
          have := line_lt hg pos k (by omega) (by omega)
          have := hp.above pos (Nat.le_refl _) (by omega)
          omega
        unfold withW
        rw [h4, if_neg (by simp), if_neg hne, listF_succ _ (k + 1)]
        have : insF f pos (x, s) (k + 1) = f k := by unfold insF; rw [if_neg (by omega), if_neg (by omega), Nat.add_sub_cancel]
        rw [this]
  unfold withL
  rcases Nat.lt_or_ge pos n with hlt | hge
  · rw [hall n hlt (Nat.le_refl _)]
    rfl
  · obtain rfl : pos = n := by omega
    rw [hlow, hs, listF_succ, ← hi pos (Nat.le_refl _)]
    simp [insF]
theorem with_hit (he : pos < n ∧ (f pos).1 = x) (hs : s.toList.isEmpty = false) : withL f x s n = listF (setF f pos s) n := by
  have hlow := with_low hp s pos (Nat.le_refl _)
  have hall : ∀ k, pos < k → k ≤ n → withW f x s k = (listF (setF f pos s) k, true) := by
    intro k
    induction k with
    | zero => intro h; omega
    | succ k ih =>
      intro h1 h2
      by_cases hk : k = pos
      · subst hk
        unfold withW
        rw [hlow, if_pos ⟨hs, by omega⟩, if_pos he.2, listF_succ, listF_congr (g := setF f k s) (fun i hi => by unfold setF; rw [if_neg (by omega)])]
        simp [setF, he.2]
      · have h4 := ih (by omega) (by omega)
        have hne : ¬ (f k).1 = x := by
          have := line_lt hg pos k (by omega) (by omega)
          omega
        unfold withW
        rw [h4, if_neg (by simp), if_neg hne, listF_succ]
        have : setF f pos s k = f k := by unfold setF; rw [if_neg hk]
        rw [this]
  unfold withL
  rw [hall n he.1 (Nat.le_refl _)]
  rfl
theorem with_drop (he : pos < n ∧ (f pos).1 = x) (hs : s.toList.isEmpty = true) : withL f x s n = listF (delF f pos) (n - 1) := by
  have hlow := with_low hp s pos (Nat.le_refl _)
  have hall : ∀ k, pos < k → k ≤ n → withW f x s k = (listF (delF f pos) (k - 1), true) := by
    intro k
    induction k with
    | zero => intro h; omega
    | succ k ih =>
      intro h1 h2
      by_cases hk : k = pos
      · subst hk
        unfold withW
        rw [hlow, hs, if_neg (by simp), if_pos he.2, Nat.add_sub_cancel, listF_congr (g := delF f k) (fun i hi => by unfold delF; rw [if_pos (by omega)])]
        simp
      · have h4 := ih (by omega) (by omega)
        have hne : ¬ (f k).1 = x := by
          have := line_lt hg pos k (by omega) (by omega)
          omega
        obtain ⟨d, rfl⟩ : ∃ d, k = d + 1 := ⟨k - 1, by omega⟩
        unfold withW
        rw [h4, if_neg (by simp), if_neg hne, Nat.add_sub_cancel, Nat.add_sub_cancel, listF_succ]
        have : delF f pos d = f (d + 1) := by unfold delF; rw [if_neg (by omega)]
        rw [this]
  unfold withL
  rw [hall n he.1 (Nat.le_refl _)]
  rfl
end




/-- the end of a call with a text and an error -/
def two2 (r : ByteArray × Int) : Ending := .returned (.tuple #[.string r.1, .int .i64 r.2])


theorem data_ne {p : ByteArray} (hv : ValidR p) (i : Nat) (hi : i < cnt p) : (cel p i).2.toList.isEmpty = false := by
  have := good_at (cel_good hv) i hi
  have h : (cel p i).2.toList ≠ [] := by rw [ne_eq, toList_nil]; omega
  simpa using h

section
variable (p : ByteArray) (x : Int) (s : ByteArray) (w : World) (hv : ValidR p)
include hv


section
variable (h0 : -9223372036854775808 ≤ x) (h1 : x ≤ 9223372036854775807) (hl : lineB x = false)
include h0 h1 hl




end

section
variable (hx : 1 ≤ x ∧ x ≤ 200) (pos : Nat) (hp : PosI (cnt p) (cel p) x pos)
include hx hp








end
end





end Go.Proofs.Ytnileonlabpbpaa
