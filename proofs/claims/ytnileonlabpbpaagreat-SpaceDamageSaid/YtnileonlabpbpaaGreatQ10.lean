/- RefP; ChgA; ChgB (merged by group.py) -/
import Derived.Test.YtnileonlabpbpaaGreatQ09
namespace Go.Proofs.YtnileonlabpbpaaGreat
section
open Go.RowKit
set_option linter.unusedVariables false
set_option maxRecDepth 20000

def listF (f : Nat → Cel) (n : Nat) : List Cel := (List.range n).map f
theorem listF_succ (f : Nat → Cel) (n : Nat) : listF f (n + 1) = listF f n ++ [f n] := by simp [listF, List.range_succ]
theorem listF_length (f : Nat → Cel) (n : Nat) : (listF f n).length = n := by simp [listF]
theorem listF_congr {f g : Nat → Cel} {n : Nat} (h : ∀ i, i < n → f i = g i) : listF f n = listF g n := by
  unfold listF
  exact List.map_congr_left (fun i hi => h i (List.mem_range.1 hi))
theorem nthC_listF (f : Nat → Cel) (n i : Nat) (h : i < n) : nthC (listF f n) i = f i := by simp [nthC, listF, List.getD_eq_getElem?_getD, h]
theorem SlC.congr {w : World} {A : Option Addr} {n : Nat} {f g : Nat → Cel} (h : SlC w A n f) (e : ∀ i, i < n → f i = g i) : SlC w A n g :=
  ⟨fun i hi => by rw [← e i hi]; exact h.at_ i hi⟩

theorem with_low {f : Nat → Cel} {n : Nat} {x : Int} {pos : Nat} (hp : PosI n f x pos) (s : ByteArray) : ∀ k, k ≤ pos → withW f x s k = (listF f k, s.toList.isEmpty) := by
  intro k
  induction k with
  | zero => intro _; simp [withW, listF]
  | succ k ih =>
    intro hk
    have h1 := ih (by omega)
    have h2 := hp.below k (by omega)
    unfold withW
    rw [h1, if_neg (by intro h; omega), if_neg (by omega), listF_succ]
section
variable {f : Nat → Cel} {n : Nat} {x : Int} {pos : Nat} (hg : ¬ AnyBad f n) (hp : PosI n f x pos) (s : ByteArray)
include hg hp
theorem with_miss (he : ¬ (pos < n ∧ (f pos).1 = x)) (hs : s.toList.isEmpty = false) : withL f x s n = listF (insF f pos (x, s)) (n + 1) := by
  have hle := hp.le
  have hlow := with_low hp s pos (Nat.le_refl _)
  have hi : ∀ k, k ≤ pos → listF f k = listF (insF f pos (x, s)) k := fun k hk => listF_congr (fun i hi => by unfold insF; rw [if_pos (by omega)])
  have hall : ∀ k, pos < k → k ≤ n → withW f x s k = (listF (insF f pos (x, s)) (k + 1), true) := by
    intro k
    induction k with
    | zero => intro h; omega
    | succ k ih =>
      intro h1 h2
      have h3 := hp.above k (by omega) (by omega)
      by_cases hk : k = pos
      · subst hk
        have hne : ¬ (f k).1 = x := fun e => he ⟨by omega, e⟩
        unfold withW
        rw [hlow, if_pos ⟨hs, h3⟩, if_neg hne, listF_succ, listF_succ, ← hi k (Nat.le_refl _)]
        simp [insF]
        omega
      · have h4 := ih (by omega) (by omega)
        have hne : ¬ (f k).1 = x := by
          have := line_lt hg pos k (by omega) (by omega)
          have := hp.above pos (Nat.le_refl _) (by omega)
          omega
        unfold withW
        rw [h4, if_neg (by simp), if_neg hne, listF_succ _ (k + 1)]
        have : insF f pos (x, s) (k + 1) = f k := by unfold insF; rw [if_neg (by omega), if_neg (by omega), Nat.add_sub_cancel]
        rw [this]
  unfold withL
  rcases Nat.lt_or_ge pos n with hlt | hge
  · rw [hall n hlt (Nat.le_refl _)]
    rfl
  · obtain rfl : pos = n := by omega
    rw [hlow, hs, listF_succ, ← hi pos (Nat.le_refl _)]
    simp [insF]
theorem with_hit (he : pos < n ∧ (f pos).1 = x) (hs : s.toList.isEmpty = false) : withL f x s n = listF (setF f pos s) n := by
  have hlow := with_low hp s pos (Nat.le_refl _)
  have hall : ∀ k, pos < k → k ≤ n → withW f x s k = (listF (setF f pos s) k, true) := by
    intro k
    induction k with
    | zero => intro h; omega
    | succ k ih =>
      intro h1 h2
      by_cases hk : k = pos
      · subst hk
        unfold withW
        rw [hlow, if_pos ⟨hs, by omega⟩, if_pos he.2, listF_succ, listF_congr (g := setF f k s) (fun i hi => by unfold setF; rw [if_neg (by omega)])]
        simp [setF, he.2]
      · have h4 := ih (by omega) (by omega)
        have hne : ¬ (f k).1 = x := by
          have := line_lt hg pos k (by omega) (by omega)
          omega
        unfold withW
        rw [h4, if_neg (by simp), if_neg hne, listF_succ]
        have : setF f pos s k = f k := by unfold setF; rw [if_neg hk]
        rw [this]
  unfold withL
  rw [hall n he.1 (Nat.le_refl _)]
  rfl
theorem with_drop (he : pos < n ∧ (f pos).1 = x) (hs : s.toList.isEmpty = true) : withL f x s n = listF (delF f pos) (n - 1) := by
  have hlow := with_low hp s pos (Nat.le_refl _)
  have hall : ∀ k, pos < k → k ≤ n → withW f x s k = (listF (delF f pos) (k - 1), true) := by
    intro k
    induction k with
    | zero => intro h; omega
    | succ k ih =>
      intro h1 h2
      by_cases hk : k = pos
      · subst hk
        unfold withW
        rw [hlow, hs, if_neg (by simp), if_pos he.2, Nat.add_sub_cancel, listF_congr (g := delF f k) (fun i hi => by unfold delF; rw [if_pos (by omega)])]
        simp
      · have h4 := ih (by omega) (by omega)
        have hne : ¬ (f k).1 = x := by
          have := line_lt hg pos k (by omega) (by omega)
          omega
        obtain ⟨d, rfl⟩ : ∃ d, k = d + 1 := ⟨k - 1, by omega⟩
        unfold withW
        rw [h4, if_neg (by simp), if_neg hne, Nat.add_sub_cancel, Nat.add_sub_cancel, listF_succ]
        have : delF f pos d = f (d + 1) := by unfold delF; rw [if_neg (by omega)]
        rw [this]
  unfold withL
  rw [hall n he.1 (Nat.le_refl _)]
  rfl
end

theorem refChanged_any (p : ByteArray) (A : Option Addr) (cap n m : Nat) (f g : Nat → Cel) (x : Int) (s : ByteArray) (w : World) (hn : n ≤ 200) (hs : SlC w A n f) (hL : withL f x s n = listF g m)
    (hg : ¬ AnyBad g m) (hsz : ∀ i, i < m → (g i).2.size ≤ 140737488355328) (hz : sizeB p.size = true) :
    Calls Tryz.prog 115 #[.string p, .slice A n cap, .int .i64 x, .string s] w fun e w' => e = .returned (.tuple #[.string (filledRes p.size m g).1, .int .i64 (filledRes p.size m g).2]) ∧ Ext w w' := by
  have hz' : 32 ≤ p.size ∧ p.size ≤ 4096 := by simp [sizeB] at hz; omega
  have hm := count_le hg
  have hlast := last_of_good hg
  have hW : ∀ W, SlC W A n f → Calls Tryz.prog 130 #[.slice A n cap, .int .i64 x, .string s] W fun e w' => ∃ B c, e = .returned (.slice B m c) ∧ SlC w' B m g ∧ Ext W w' := fun W h =>
    (refWith_any A cap n f x s W hn h).mono fun e w' ⟨v, he, ho, hx⟩ => by
      rw [hL] at ho
      obtain ⟨B, c, hv, hs'⟩ := slC_of_row ho
      rw [listF_length] at hv hs'
      exact ⟨B, c, by rw [he, hv], hs'.congr (fun i hi => nthC_listF g m i hi), hx⟩
  have hR := fun B c W h => refRoom_any p.size B c m g W hm h hsz (by omega) (by omega) (by omega) (by omega)
  by_cases hr : roomF p.size g m < 0
  · unfold filledRes
    rw [if_pos hr]
    go_enter Tryz.func115, Tryz.ntmps115
    go_wp2_with (first
      | (go_at_call 130; refine (hW _ hs).mono ?_; rintro e w1 ⟨B, c, rfl, hs1, hx1⟩)
      | (go_at_call 105; refine (hR B c _ hs1).mono ?_; rintro e w2 ⟨rfl, rfl⟩))
    go_ret2
    exact ⟨rfl, hx1⟩
  · have hF := fit_of_good hg hm hz hr
    unfold filledRes
    rw [if_neg hr]
    go_enter Tryz.func115, Tryz.ntmps115
    go_wp2_with (first
      | (go_at_call 130; refine (hW _ hs).mono ?_; rintro e w1 ⟨B, c, rfl, hs1, hx1⟩)
      | (go_at_call 105; refine (hR B c _ hs1).mono ?_; rintro e w2 ⟨rfl, rfl⟩)
      | (go_at_call 80; refine (refBuilt_any p.size B c m g _ hs1 hF hm).mono ?_; rintro e w3 ⟨rfl, hx3⟩))
    go_ret2
    exact ⟨rfl, hx1.trans hx3⟩

theorem refLine_no (p : ByteArray) (x : Int) (w : World) (hv : ValidR p) (h0 : -9223372036854775808 ≤ x) (h1 : x ≤ 9223372036854775807) (hl : lineB x = false) :
    Calls Tryz.prog 97 #[.string p, .int .i64 x] w fun e w' => e = .returned (.tuple #[.slice none 0 0, .int .i64 7]) ∧ Ext w w' := by
  obtain ⟨z1, z2⟩ := sizes_of hv
  have hl' : x < 1 ∨ 200 < x := by simp [lineB] at hl; omega
  by_cases hc : x < 1
  · go_enter Tryz.func97, Tryz.ntmps97
    go_wp2_with (go_at_call 89; refine (refValid_any p _ (by omega)).mono ?_; rintro e w1 ⟨rfl, hx1⟩; rw [decide_eq_true hv])
    go_ret2
    exact ⟨rfl, hx1⟩
  · have hc2 : 200 < x := by omega
    go_enter Tryz.func97, Tryz.ntmps97
    go_wp2_with (go_at_call 89; refine (refValid_any p _ (by omega)).mono ?_; rintro e w1 ⟨rfl, hx1⟩; rw [decide_eq_true hv])
    go_ret2
    exact ⟨rfl, hx1⟩
theorem refLine_yes (p : ByteArray) (x : Int) (w : World) (hv : ValidR p) (hx : 1 ≤ x ∧ x ≤ 200) :
    Calls Tryz.prog 97 #[.string p, .int .i64 x] w fun e w' => ∃ A cap, e = .returned (.tuple #[.slice A (cnt p) cap, .int .i64 0]) ∧ SlC w' A (cnt p) (cel p) ∧ Ext w w' := by
  obtain ⟨z1, z2⟩ := sizes_of hv
  obtain ⟨hx1, hx2⟩ := hx
  go_enter Tryz.func97, Tryz.ntmps97
  go_wp2_with (first
    | (go_at_call 89; refine (refValid_any p _ (by omega)).mono ?_; rintro e w1 ⟨rfl, hx1⟩; rw [decide_eq_true hv])
    | (go_at_call 64; refine (refCellsOf_any p _ hv).mono ?_; rintro e w2 ⟨v, rfl, hown, hx2⟩))
  obtain ⟨A, cap, rfl, hs⟩ := slC_of_row hown
  go_wp2
  go_ret2
  exact ⟨A, cap, rfl, hs, hx1.trans hx2⟩

/-- the end of a call with a text and an error -/
def two2 (r : ByteArray × Int) : Ending := .returned (.tuple #[.string r.1, .int .i64 r.2])
theorem refAt_pos {A : Option Addr} {cap n : Nat} {f : Nat → Cel} {x : Int} {pos : Nat} {w : World} (hn : n ≤ 200) (hs : SlC w A n f) (hp : PosI n f x pos) (he : pos < n ∧ (f pos).1 = x) :
    Calls Tryz.prog 98 #[.slice A n cap, .int .i64 x] w fun e w' => e = .returned (.string (f pos).2) ∧ w = w' :=
  refAt_hit A cap n f x w (by omega) hs pos he.1 he.2 (fun i hi => by have := hp.below i hi; omega)
theorem refAt_miss {A : Option Addr} {cap n : Nat} {f : Nat → Cel} {x : Int} {pos : Nat} {w : World} (hn : n ≤ 200) (hs : SlC w A n f) (hg : ¬ AnyBad f n) (hp : PosI n f x pos) (he : ¬ (pos < n ∧ (f pos).1 = x)) :
    Calls Tryz.prog 98 #[.slice A n cap, .int .i64 x] w fun e w' => e = .returned (.string ⟨#[]⟩) ∧ w = w' :=
  refAt_none A cap n f x w (by omega) hs (fun i hi h => by
    rcases Nat.lt_or_ge i pos with h1 | h1
    · have := hp.below i h1; omega
    · rcases Nat.lt_or_ge pos i with h2 | h2
      · have := line_lt hg pos i h2 hi
        have := hp.above pos (Nat.le_refl _) (by omega)
        omega
      · obtain rfl : i = pos := by omega
        exact he ⟨hi, h⟩)
theorem data_ne {p : ByteArray} (hv : ValidR p) (i : Nat) (hi : i < cnt p) : (cel p i).2.toList.isEmpty = false := by
  have := good_at (cel_good hv) i hi
  have h : (cel p i).2.toList ≠ [] := by rw [ne_eq, toList_nil]; omega
  simpa using h

section
variable (p : ByteArray) (x : Int) (s : ByteArray) (w : World) (hv : ValidR p)
include hv
theorem refPutAt_empty (hs : s.toList = []) :
    Calls Tryz.prog 83 #[.string p, .int .i64 x, .string s] w fun e w' => e = two2 (⟨#[]⟩, 1) ∧ Ext w w' := by
  obtain ⟨z1, z2⟩ := sizes_of hv
  go_enter Tryz.func83, Tryz.ntmps83
  go_wp2_with (go_at_call 89; refine (refValid_any p _ (by omega)).mono ?_; rintro e w1 ⟨rfl, hx1⟩; rw [decide_eq_true hv])
  go_ret2
  exact ⟨rfl, hx1⟩
theorem refSet_empty (hs : s.toList = []) :
    Calls Tryz.prog 85 #[.string p, .int .i64 x, .string s] w fun e w' => e = two2 (⟨#[]⟩, 1) ∧ Ext w w' := by
  obtain ⟨z1, z2⟩ := sizes_of hv
  go_enter Tryz.func85, Tryz.ntmps85
  go_wp2_with (go_at_call 89; refine (refValid_any p _ (by omega)).mono ?_; rintro e w1 ⟨rfl, hx1⟩; rw [decide_eq_true hv])
  go_ret2
  exact ⟨rfl, hx1⟩

section
variable (h0 : -9223372036854775808 ≤ x) (h1 : x ≤ 9223372036854775807) (hl : lineB x = false)
include h0 h1 hl
theorem refPutAt_line (hs : s.toList ≠ []) :
    Calls Tryz.prog 83 #[.string p, .int .i64 x, .string s] w fun e w' => e = two2 (⟨#[]⟩, 7) ∧ Ext w w' := by
  obtain ⟨z1, z2⟩ := sizes_of hv
  have hL := fun W => refLine_no p x W hv h0 h1 hl
  have d3 : s.toList.isEmpty = false := by simpa using hs
  clear hs
  go_enter Tryz.func83, Tryz.ntmps83
  go_wp2_with (first
    | (go_at_call 89; refine (refValid_any p _ (by omega)).mono ?_; rintro e w1 ⟨rfl, hx1⟩; rw [decide_eq_true hv])
    | (go_at_call 97; refine (hL _).mono ?_; rintro e w2 ⟨rfl, hx2⟩))
  go_ret2
  exact ⟨rfl, hx1.trans hx2⟩
theorem refSet_line (hs : s.toList ≠ []) :
    Calls Tryz.prog 85 #[.string p, .int .i64 x, .string s] w fun e w' => e = two2 (⟨#[]⟩, 7) ∧ Ext w w' := by
  obtain ⟨z1, z2⟩ := sizes_of hv
  have hL := fun W => refLine_no p x W hv h0 h1 hl
  have d3 : s.toList.isEmpty = false := by simpa using hs
  clear hs
  go_enter Tryz.func85, Tryz.ntmps85
  go_wp2_with (first
    | (go_at_call 89; refine (refValid_any p _ (by omega)).mono ?_; rintro e w1 ⟨rfl, hx1⟩; rw [decide_eq_true hv])
    | (go_at_call 97; refine (hL _).mono ?_; rintro e w2 ⟨rfl, hx2⟩))
  go_ret2
  exact ⟨rfl, hx1.trans hx2⟩
theorem refGet_line :
    Calls Tryz.prog 58 #[.string p, .int .i64 x] w fun e w' => e = two2 (⟨#[]⟩, 7) ∧ Ext w w' := by
  have hL := fun W => refLine_no p x W hv h0 h1 hl
  go_enter Tryz.func58, Tryz.ntmps58
  go_wp2_with (go_at_call 97; refine (hL _).mono ?_; rintro e w2 ⟨rfl, hx2⟩)
  go_ret2
  exact ⟨rfl, hx2⟩
theorem refDrop_line :
    Calls Tryz.prog 86 #[.string p, .int .i64 x] w fun e w' => e = two2 (⟨#[]⟩, 7) ∧ Ext w w' := by
  have hL := fun W => refLine_no p x W hv h0 h1 hl
  go_enter Tryz.func86, Tryz.ntmps86
  go_wp2_with (go_at_call 97; refine (hL _).mono ?_; rintro e w2 ⟨rfl, hx2⟩)
  go_ret2
  exact ⟨rfl, hx2⟩
end

section
variable (hx : 1 ≤ x ∧ x ≤ 200) (pos : Nat) (hp : PosI (cnt p) (cel p) x pos)
include hx hp
theorem refGet_hit (he : pos < cnt p ∧ (cel p pos).1 = x) :
    Calls Tryz.prog 58 #[.string p, .int .i64 x] w fun e w' => e = two2 ((cel p pos).2, 0) ∧ Ext w w' := by
  have hL := fun W => refLine_yes p x W hv hx
  have hn := cnt_le hv
  have hA := fun A cap W (h : SlC W A (cnt p) (cel p)) => refAt_pos (cap := cap) hn h hp he
  have d1 := data_ne hv pos he.1
  clear he
  go_enter Tryz.func58, Tryz.ntmps58
  go_wp2_with (first
    | (go_at_call 97; refine (hL _).mono ?_; rintro e w2 ⟨A, cap, rfl, hs, hx2⟩)
    | (go_at_call 98; refine (hA A cap _ hs).mono ?_; rintro e w3 ⟨rfl, rfl⟩))
  go_ret2
  exact ⟨rfl, hx2⟩
theorem refGet_miss (he : ¬ (pos < cnt p ∧ (cel p pos).1 = x)) :
    Calls Tryz.prog 58 #[.string p, .int .i64 x] w fun e w' => e = two2 (⟨#[]⟩, 8) ∧ Ext w w' := by
  have hL := fun W => refLine_yes p x W hv hx
  have hn := cnt_le hv
  have hA := fun A cap W (h : SlC W A (cnt p) (cel p)) => refAt_miss (cap := cap) hn h (cel_good hv) hp he
  clear he
  go_enter Tryz.func58, Tryz.ntmps58
  go_wp2_with (first
    | (go_at_call 97; refine (hL _).mono ?_; rintro e w2 ⟨A, cap, rfl, hs, hx2⟩)
    | (go_at_call 98; refine (hA A cap _ hs).mono ?_; rintro e w3 ⟨rfl, rfl⟩))
  go_ret2
  exact ⟨rfl, hx2⟩
theorem refPutAt_hit (hs : s.toList ≠ []) (he : pos < cnt p ∧ (cel p pos).1 = x) :
    Calls Tryz.prog 83 #[.string p, .int .i64 x, .string s] w fun e w' => e = two2 (⟨#[]⟩, 6) ∧ Ext w w' := by
  obtain ⟨z1, z2⟩ := sizes_of hv
  have hL := fun W => refLine_yes p x W hv hx
  have hn := cnt_le hv
  have hA := fun A cap W (h : SlC W A (cnt p) (cel p)) => refAt_pos (cap := cap) hn h hp he
  have d1 := data_ne hv pos he.1
  have d3 : s.toList.isEmpty = false := by simpa using hs
  clear he hs
  go_enter Tryz.func83, Tryz.ntmps83
  go_wp2_with (first
    | (go_at_call 89; refine (refValid_any p _ (by omega)).mono ?_; rintro e w1 ⟨rfl, hx1⟩; rw [decide_eq_true hv])
    | (go_at_call 97; refine (hL _).mono ?_; rintro e w2 ⟨A, cap, rfl, hs, hx2⟩)
    | (go_at_call 98; refine (hA A cap _ hs).mono ?_; rintro e w3 ⟨rfl, rfl⟩))
  go_ret2
  exact ⟨rfl, hx1.trans hx2⟩
theorem refPutAt_miss (hs : s.toList ≠ []) (hs2 : s.size ≤ 140737488355328) (he : ¬ (pos < cnt p ∧ (cel p pos).1 = x)) :
    Calls Tryz.prog 83 #[.string p, .int .i64 x, .string s] w fun e w' => e = two2 (filledRes p.size (cnt p + 1) (insF (cel p) pos (x, s))) ∧ Ext w w' := by
  obtain ⟨z1, z2⟩ := sizes_of hv
  have hL := fun W => refLine_yes p x W hv hx
  have hn := cnt_le hv
  have hG := cel_good hv
  have hS := cel_size hv
  have hA := fun A cap W (h : SlC W A (cnt p) (cel p)) => refAt_miss (cap := cap) hn h hG hp he
  have d3 : s.toList.isEmpty = false := by simpa using hs
  have hs0 : 0 < s.size := by rw [ne_eq, toList_nil] at hs; omega
  have hG2 := ins_good hG hp hx he s hs0
  have hW := with_miss hG hp s he d3
  have hle := hp.le
  have hC := fun A cap W h => refChanged_any p A cap (cnt p) (cnt p + 1) (cel p) (insF (cel p) pos (x, s)) x s W hn h hW hG2 (fun i hi => by unfold insF; split; exact hS i (by omega); split; exact hs2; exact hS (i - 1) (by omega)) hv.1.1
  clear he hs hW
  unfold two2
  go_enter Tryz.func83, Tryz.ntmps83
  go_wp2_with (first
    | (go_at_call 89; refine (refValid_any p _ (by omega)).mono ?_; rintro e w1 ⟨rfl, hx1⟩; rw [decide_eq_true hv])
    | (go_at_call 97; refine (hL _).mono ?_; rintro e w2 ⟨A, cap, rfl, hs, hx2⟩)
    | (go_at_call 98; refine (hA A cap _ hs).mono ?_; rintro e w3 ⟨rfl, rfl⟩)
    | (go_at_call 115; refine (hC A cap _ hs).mono ?_; rintro e w4 ⟨rfl, hx4⟩))
  go_ret2
  exact ⟨rfl, (hx1.trans hx2).trans hx4⟩
theorem refSet_miss (hs : s.toList ≠ []) (he : ¬ (pos < cnt p ∧ (cel p pos).1 = x)) :
    Calls Tryz.prog 85 #[.string p, .int .i64 x, .string s] w fun e w' => e = two2 (⟨#[]⟩, 8) ∧ Ext w w' := by
  obtain ⟨z1, z2⟩ := sizes_of hv
  have hL := fun W => refLine_yes p x W hv hx
  have hn := cnt_le hv
  have hA := fun A cap W (h : SlC W A (cnt p) (cel p)) => refAt_miss (cap := cap) hn h (cel_good hv) hp he
  have d3 : s.toList.isEmpty = false := by simpa using hs
  clear he hs
  go_enter Tryz.func85, Tryz.ntmps85
  go_wp2_with (first
    | (go_at_call 89; refine (refValid_any p _ (by omega)).mono ?_; rintro e w1 ⟨rfl, hx1⟩; rw [decide_eq_true hv])
    | (go_at_call 97; refine (hL _).mono ?_; rintro e w2 ⟨A, cap, rfl, hs, hx2⟩)
    | (go_at_call 98; refine (hA A cap _ hs).mono ?_; rintro e w3 ⟨rfl, rfl⟩))
  go_ret2
  exact ⟨rfl, hx1.trans hx2⟩
theorem refSet_hit (hs : s.toList ≠ []) (hs2 : s.size ≤ 140737488355328) (he : pos < cnt p ∧ (cel p pos).1 = x) :
    Calls Tryz.prog 85 #[.string p, .int .i64 x, .string s] w fun e w' => e = two2 (filledRes p.size (cnt p) (setF (cel p) pos s)) ∧ Ext w w' := by
  obtain ⟨z1, z2⟩ := sizes_of hv
  have hL := fun W => refLine_yes p x W hv hx
  have hn := cnt_le hv
  have hG := cel_good hv
  have hS := cel_size hv
  have hA := fun A cap W (h : SlC W A (cnt p) (cel p)) => refAt_pos (cap := cap) hn h hp he
  have d1 := data_ne hv pos he.1
  have d3 : s.toList.isEmpty = false := by simpa using hs
  have hs0 : 0 < s.size := by rw [ne_eq, toList_nil] at hs; omega
  have hW := with_hit hG hp s he d3
  have hC := fun A cap W h => refChanged_any p A cap (cnt p) (cnt p) (cel p) (setF (cel p) pos s) x s W hn h hW (setF_good hG pos s hs0) (fun i hi => by unfold setF; split; exact hs2; exact hS i hi) hv.1.1
  clear he hs hW
  unfold two2
  go_enter Tryz.func85, Tryz.ntmps85
  go_wp2_with (first
    | (go_at_call 89; refine (refValid_any p _ (by omega)).mono ?_; rintro e w1 ⟨rfl, hx1⟩; rw [decide_eq_true hv])
    | (go_at_call 97; refine (hL _).mono ?_; rintro e w2 ⟨A, cap, rfl, hs, hx2⟩)
    | (go_at_call 98; refine (hA A cap _ hs).mono ?_; rintro e w3 ⟨rfl, rfl⟩)
    | (go_at_call 115; refine (hC A cap _ hs).mono ?_; rintro e w4 ⟨rfl, hx4⟩))
  go_ret2
  exact ⟨rfl, (hx1.trans hx2).trans hx4⟩
theorem refDrop_miss (he : ¬ (pos < cnt p ∧ (cel p pos).1 = x)) :
    Calls Tryz.prog 86 #[.string p, .int .i64 x] w fun e w' => e = two2 (⟨#[]⟩, 8) ∧ Ext w w' := by
  have hL := fun W => refLine_yes p x W hv hx
  have hn := cnt_le hv
  have hA := fun A cap W (h : SlC W A (cnt p) (cel p)) => refAt_miss (cap := cap) hn h (cel_good hv) hp he
  clear he
  go_enter Tryz.func86, Tryz.ntmps86
  go_wp2_with (first
    | (go_at_call 97; refine (hL _).mono ?_; rintro e w2 ⟨A, cap, rfl, hs, hx2⟩)
    | (go_at_call 98; refine (hA A cap _ hs).mono ?_; rintro e w3 ⟨rfl, rfl⟩))
  go_ret2
  exact ⟨rfl, hx2⟩
theorem refDrop_hit (he : pos < cnt p ∧ (cel p pos).1 = x) :
    Calls Tryz.prog 86 #[.string p, .int .i64 x] w fun e w' => e = two2 (filledRes p.size (cnt p - 1) (delF (cel p) pos)) ∧ Ext w w' := by
  have hL := fun W => refLine_yes p x W hv hx
  have hn := cnt_le hv
  have hG := cel_good hv
  have hS := cel_size hv
  have hA := fun A cap W (h : SlC W A (cnt p) (cel p)) => refAt_pos (cap := cap) hn h hp he
  have d1 := data_ne hv pos he.1
  have hW := with_drop hG hp ⟨#[]⟩ he (by rw [(toList_nil ⟨#[]⟩).2 rfl]; rfl)
  have hC := fun A cap W h => refChanged_any p A cap (cnt p) (cnt p - 1) (cel p) (delF (cel p) pos) x ⟨#[]⟩ W hn h hW (del_good hG pos he.1) (fun i hi => by unfold delF; split; exact hS i (by omega); exact hS (i + 1) (by omega)) hv.1.1
  clear he hW
  unfold two2
  go_enter Tryz.func86, Tryz.ntmps86
  go_wp2_with (first
    | (go_at_call 97; refine (hL _).mono ?_; rintro e w2 ⟨A, cap, rfl, hs, hx2⟩)
    | (go_at_call 98; refine (hA A cap _ hs).mono ?_; rintro e w3 ⟨rfl, rfl⟩)
    | (go_at_call 115; refine (hC A cap _ hs).mono ?_; rintro e w4 ⟨rfl, hx4⟩))
  go_ret2
  exact ⟨rfl, hx2.trans hx4⟩
end
end

theorem refHolds_any (size : Nat) (A : Option Addr) (cap n : Nat) (f : Nat → Cel) (b : Nat) (w : World) (hn : n ≤ 200) (hs : SlC w A n f) (hg : ¬ AnyBad f n) (hsz : ∀ i, i < n → (f i).2.size ≤ 140737488355328) (hz : size ≤ 4096) (hb0 : 0 < b) (hb : b ≤ 140737488355328) :
    Calls Tryz.prog 63 #[.int .i64 size, .slice A n cap, .int .i64 b] w fun e w' => e = .returned (.bool (decide (nextF f n ≤ 200) && decide (0 ≤ (size : Int) - 2 - 4 * (if (nextF f n : Int) ≤ lastF f n then lastF f n else nextF f n) - bytesF f n - b))) ∧ w = w' := by
  have hQ := fun W h => refLeast_any A cap n f W hn h hg
  have hI := nextI hg n (Nat.le_refl _)
  have i1 := hI.ge
  have i2 := hI.le
  have hbl : bytesF f n ≤ 28147497671065600 := by
    have h1 := bytesF_le f n hsz
    have hmul : n * 140737488355328 ≤ 200 * 140737488355328 := Nat.mul_le_mul_right _ (by omega)
    omega
  have hl := last_of_good hg
  clear hI
  have hLa := fun W h => refLast_any A cap n f W (by omega) h
  have hBy := fun W h => refBytes_any A cap n f W hn h hsz
  have c1 : (0 : Int) < b := by omega
  generalize lastF f n = la at *
  generalize bytesF f n = by_ at *
  generalize nextF f n = m at *
  by_cases h2 : m ≤ 200
  · have c2 : (m : Int) ≤ 200 := by omega
    have c3 : decide (m ≤ 200) = true := by simpa using h2
    rw [c3, Bool.true_and]
    clear c3
    have hmax : max (m : Int) la = if (m : Int) ≤ la then la else m := by
      simp only [Int.max_def]
    go_enter Tryz.func63, Tryz.ntmps63
    go_wp2_with (first
      | (go_at_call 101; refine (hQ _ hs).mono ?_; rintro e w2 ⟨rfl, rfl⟩)
      | (go_at_call 102; refine (hLa _ hs).mono ?_; rintro e w2 ⟨rfl, rfl⟩)
      | (go_at_call 103; refine (hBy _ hs).mono ?_; rintro e w2 ⟨rfl, rfl⟩))
    all_goals (
      go_ret
      refine ⟨ret_bool ?_, rfl⟩
      first
        | rfl
        | (rw [decide_eq_decide]; omega))
  · have c2 : ¬ (m : Int) ≤ 200 := by omega
    have c3 : decide (m ≤ 200) = false := by simpa using h2
    rw [c3, Bool.false_and]
    clear c3
    go_enter Tryz.func63, Tryz.ntmps63
    go_wp2_with (go_at_call 101; refine (hQ _ hs).mono ?_; rintro e w2 ⟨rfl, rfl⟩)
    go_ret
    exact ⟨rfl, rfl⟩

theorem refPut_empty (p : ByteArray) (s : ByteArray) (w : World) (hv : ValidR p) (hs : s.toList = []) :
    Calls Tryz.prog 81 #[.string p, .string s] w fun e w' => e = put3 (⟨#[]⟩, 0, 1) ∧ Ext w w' := by
  have hC := fun W => refCells_of p W hv
  go_enter Tryz.func81, Tryz.ntmps81
  go_wp2_with (go_at_call 114; refine (hC _).mono ?_; rintro e w1 ⟨A, cap, rfl, hs, hx1⟩)
  go_ret3
  exact ⟨rfl, hx1⟩
theorem refPut_ok (p : ByteArray) (s : ByteArray) (w : World) (hv : ValidR p) (hs : s.toList ≠ []) (hs2 : s.size ≤ 140737488355328) (pos : Nat) (hp : PosI (cnt p) (cel p) (nextF (cel p) (cnt p)) pos) :
    Calls Tryz.prog 81 #[.string p, .string s] w fun e w' => e = put3 (putRes p.size (cnt p) (cel p) pos s) ∧ Ext w w' := by
  obtain ⟨z1, z2⟩ := sizes_of hv
  have hC := fun W => refCells_of p W hv
  have hs0 : 0 < s.size := by
    rw [ne_eq, toList_nil] at hs
    omega
  have d3 : s.toList.isEmpty = false := by simpa using hs
  clear hs
  have hG := cel_good hv
  have hn := cnt_le hv
  have hS := cel_size hv
  have hle := hp.le
  have hge := (nextI hG _ (Nat.le_refl _)).ge
  have hL := fun A cap W (h : SlC W A (cnt p) (cel p)) => refLeast_any A cap (cnt p) (cel p) W hn h hG
  have hH := fun A cap W (h : SlC W A (cnt p) (cel p)) => refHolds_any p.size A cap (cnt p) (cel p) s.size W hn h hG hS z2 hs0 hs2
  have hroom := roomF_ins hp (by omega) s p.size
  unfold putRes put3
  by_cases h2 : nextF (cel p) (cnt p) ≤ 200
  · rw [if_pos h2]
    rw [decide_eq_true h2, Bool.true_and] at hH
    have hmiss := next_miss hG (pos := pos)
    have hG2 := ins_good hG hp ⟨by omega, by omega⟩ hmiss s hs0
    have hW := with_miss hG hp s hmiss d3
    by_cases hr : roomF p.size (insF (cel p) pos (nextF (cel p) (cnt p), s)) (cnt p + 1) < 0
    · rw [if_pos hr]
      rw [hroom] at hr
      rw [decide_eq_false (by omega)] at hH
      clear hr hroom hW hmiss
      go_enter Tryz.func81, Tryz.ntmps81
      go_wp2_with (first
        | (go_at_call 114; refine (hC _).mono ?_; rintro e w1 ⟨A, cap, rfl, hs, hx1⟩)
        | (go_at_call 63; refine (hH A cap _ hs).mono ?_; rintro e w2 ⟨rfl, rfl⟩))
      go_ret3
      exact ⟨rfl, hx1⟩
    · rw [if_neg hr]
      have hCh := fun A cap W h => refChanged_any p A cap (cnt p) (cnt p + 1) (cel p) (insF (cel p) pos (nextF (cel p) (cnt p), s)) (nextF (cel p) (cnt p)) s W hn h hW hG2 (fun i hi => by unfold insF; split; exact hS i (by omega); split; exact hs2; exact hS (i - 1) (by omega)) hv.1.1
      unfold filledRes at hCh
      rw [if_neg hr] at hCh
      rw [hroom] at hr
      rw [decide_eq_true (by omega)] at hH
      clear hr hroom hW hmiss
      go_enter Tryz.func81, Tryz.ntmps81
      go_wp2_with (first
        | (go_at_call 114; refine (hC _).mono ?_; rintro e w1 ⟨A, cap, rfl, hs, hx1⟩)
        | (go_at_call 63; refine (hH A cap _ hs).mono ?_; rintro e w2 ⟨rfl, rfl⟩)
        | (go_at_call 101; first | (refine (hL A cap _ hs).mono ?_; rintro e w3 ⟨rfl, rfl⟩) | (refine (hL A cap _ (hs.ext hx4)).mono ?_; rintro e w3 ⟨rfl, rfl⟩))
        | (go_at_call 115; refine (hCh A cap _ hs).mono ?_; rintro e w4 ⟨rfl, hx4⟩))
      go_ret3
      exact ⟨rfl, hx1.trans hx4⟩
  · rw [if_neg h2]
    rw [decide_eq_false h2, Bool.false_and] at hH
    go_enter Tryz.func81, Tryz.ntmps81
    go_wp2_with (first
      | (go_at_call 114; refine (hC _).mono ?_; rintro e w1 ⟨A, cap, rfl, hs, hx1⟩)
      | (go_at_call 63; refine (hH A cap _ hs).mono ?_; rintro e w2 ⟨rfl, rfl⟩))
    go_ret3
    exact ⟨rfl, hx1⟩
end
section
open Go.RowKit
set_option linter.unusedVariables false
set_option maxRecDepth 20000

/-- what Get tells of a line among cells -/
def GetR (f : Nat → Cel) (n : Nat) (i : Int) (r : ByteArray × Int) : Prop :=
  (∃ k, k < n ∧ (f k).1 = i ∧ r = ((f k).2, 0)) ∨ ((∀ k, k < n → (f k).1 ≠ i) ∧ r = (⟨#[]⟩, 8))
theorem getR_some (f : Nat → Cel) (n : Nat) (i : Int) : ∃ r, GetR f n i r := by
  by_cases h : ∃ k, k < n ∧ (f k).1 = i
  · obtain ⟨k, h1, h2⟩ := h
    exact ⟨_, .inl ⟨k, h1, h2, rfl⟩⟩
  · exact ⟨_, .inr ⟨fun k h1 h2 => h ⟨k, h1, h2⟩, rfl⟩⟩
theorem getR_congr {f g : Nat → Cel} {n : Nat} {i : Int} {r : ByteArray × Int} (h : GetR f n i r) (e : ∀ k, k < n → f k = g k) : GetR g n i r := by
  rcases h with ⟨k, h1, h2, h3⟩ | ⟨h1, h2⟩
  · exact .inl ⟨k, h1, by rw [← e k h1]; exact h2, by rw [← e k h1]; exact h3⟩
  · exact .inr ⟨fun k hk => by rw [← e k hk]; exact h1 k hk, h2⟩
theorem getR_ins {f : Nat → Cel} {n pos : Nat} {x : Int} {s : ByteArray} {i : Int} {r : ByteArray × Int} (h : GetR f n i r) (hne : i ≠ x) (hp : pos ≤ n) : GetR (insF f pos (x, s)) (n + 1) i r := by
  rcases h with ⟨k, h1, h2, h3⟩ | ⟨h1, h2⟩
  · by_cases hk : k < pos
    · exact .inl ⟨k, by omega, by unfold insF; rw [if_pos hk]; exact h2, by unfold insF; rw [if_pos hk]; exact h3⟩
    · exact .inl ⟨k + 1, by omega, by unfold insF; rw [if_neg (by omega), if_neg (by omega)]; exact h2, by unfold insF; rw [if_neg (by omega), if_neg (by omega)]; exact h3⟩
  · refine .inr ⟨fun k hk => ?_, h2⟩
    unfold insF
    split
    · exact h1 k (by omega)
    · split
      · exact fun e => hne e.symm
      · exact h1 (k - 1) (by omega)
theorem getR_set {f : Nat → Cel} {n pos : Nat} {x : Int} {s : ByteArray} {i : Int} {r : ByteArray × Int} (h : GetR f n i r) (hne : i ≠ x) (hx : (f pos).1 = x) : GetR (setF f pos s) n i r := by
  rcases h with ⟨k, h1, h2, h3⟩ | ⟨h1, h2⟩
  · have hk : ¬ k = pos := fun e => hne (by rw [← h2, e, hx])
    exact .inl ⟨k, h1, by unfold setF; rw [if_neg hk]; exact h2, by unfold setF; rw [if_neg hk]; exact h3⟩
  · refine .inr ⟨fun k hk => ?_, h2⟩
    unfold setF
    split
    · rw [hx]; exact fun e => hne e.symm
    · exact h1 k hk
theorem getR_del {f : Nat → Cel} {n pos : Nat} {x : Int} {i : Int} {r : ByteArray × Int} (h : GetR f n i r) (hne : i ≠ x) (hp : pos < n) (hx : (f pos).1 = x) : GetR (delF f pos) (n - 1) i r := by
  rcases h with ⟨k, h1, h2, h3⟩ | ⟨h1, h2⟩
  · have hk : ¬ k = pos := fun e => hne (by rw [← h2, e, hx])
    by_cases hk2 : k < pos
    · exact .inl ⟨k, by omega, by unfold delF; rw [if_pos hk2]; exact h2, by unfold delF; rw [if_pos hk2]; exact h3⟩
    · obtain ⟨d, rfl⟩ : ∃ d, k = d + 1 := ⟨k - 1, by omega⟩
      exact .inl ⟨d, by omega, by unfold delF; rw [if_neg (by omega)]; exact h2, by unfold delF; rw [if_neg (by omega)]; exact h3⟩
  · refine .inr ⟨fun k hk => ?_, h2⟩
    unfold delF
    split
    · exact h1 k (by omega)
    · exact h1 (k + 1) (by omega)

theorem get_rel (p : ByteArray) (x : Int) (r : ByteArray × Int) (w : World) (hv : ValidR p) (hx : 1 ≤ x ∧ x ≤ 200) (hr : GetR (cel p) (cnt p) x r) :
    Calls Tryz.prog 56 #[.string p, .int .i64 x] w fun e w' => e = two2 r ∧ Ext w w' := by
  have hG := cel_good hv
  obtain ⟨pos, hp⟩ := pos_of hG x
  rcases hr with ⟨k, h1, h2, rfl⟩ | ⟨h1, rfl⟩
  · have hk : k = pos := by
      rcases Nat.lt_trichotomy k pos with h | h | h
      · have := hp.below k h; omega
      · exact h
      · have := hp.above pos (Nat.le_refl _) (by omega)
        have := line_lt hG pos k h h1
        omega
    subst hk
    exact get_hit p x w hv hx k hp ⟨h1, h2⟩
  · exact get_miss p x w hv hx pos hp (fun h => h1 pos h.1 h.2)
end
section
open Go.RowKit
set_option linter.unusedVariables false
set_option maxRecDepth 20000

theorem filled_valid (size m : Nat) (g : Nat → Cel) (hg : ¬ AnyBad g m) (hz : sizeB size = true) (h0 : (filledRes size m g).2 = 0) :
    (filledRes size m g).1.size = size ∧ ValidR (filledRes size m g).1 ∧ cnt (filledRes size m g).1 = m ∧ ∀ i, i < m → cel (filledRes size m g).1 i = g i := by
  have hr : ¬ roomF size g m < 0 := by
    intro h
    unfold filledRes at h0
    rw [if_pos h] at h0
    cases h0
  have hm := count_le hg
  obtain ⟨h1, h2, h3⟩ := built_page size m g hg (fit_of_good hg hm hz hr) hz (filledRes size m g).1 (by unfold filledRes; rw [if_neg hr])
  have h4 : cnt (filledRes size m g).1 = m := by unfold cnt; rw [h3]; simp
  refine ⟨h1, h2, h4, fun i hi => ?_⟩
  unfold cel
  rw [h3]
  exact nthC_listF g m i hi

/-- a call of the program and one of the reference that end alike -/
def Both2 (F G : FuncId) (args : Array Value) (r : ByteArray × Int) : Prop :=
  (∀ w, Calls Tryz.prog F args w fun e w' => e = two2 r ∧ Ext w w') ∧ (∀ w, Calls Tryz.prog G args w fun e w' => e = two2 r ∧ Ext w w')

section
variable (p : ByteArray) (x : Int) (s : ByteArray) (hv : ValidR p) (h0 : -9223372036854775808 ≤ x) (h1 : x ≤ 9223372036854775807)
include hv h0 h1
theorem get_both : ∃ r, Both2 56 58 #[.string p, .int .i64 x] r := by
  cases hl : lineB x with
  | false => exact ⟨(⟨#[]⟩, 7), fun w => get_line p x w hv h0 h1 hl, fun w => refGet_line p x w hv h0 h1 hl⟩
  | true =>
    have hx : 1 ≤ x ∧ x ≤ 200 := by simp [lineB] at hl; omega
    obtain ⟨pos, hp⟩ := pos_of (cel_good hv) x
    by_cases he : pos < cnt p ∧ (cel p pos).1 = x
    · exact ⟨((cel p pos).2, 0), fun w => get_hit p x w hv hx pos hp he, fun w => refGet_hit p x w hv hx pos hp he⟩
    · exact ⟨(⟨#[]⟩, 8), fun w => get_miss p x w hv hx pos hp he, fun w => refGet_miss p x w hv hx pos hp he⟩




end
theorem put_both (p s : ByteArray) (hv : ValidR p) (hs2 : s.size ≤ 140737488355328) : ∃ r : ByteArray × Int × Int, (∀ w, Calls Tryz.prog 77 #[.string p, .string s] w fun e w' => e = put3 r ∧ Ext w w') ∧ (∀ w, Calls Tryz.prog 81 #[.string p, .string s] w fun e w' => e = put3 r ∧ Ext w w') := by
  by_cases hs : s.toList = []
  · exact ⟨_, fun w => put_empty p s w hv hs, fun w => refPut_empty p s w hv hs⟩
  · obtain ⟨pos, hp⟩ := pos_of (cel_good hv) (nextF (cel p) (cnt p))
    exact ⟨_, fun w => put_ok p s w hv hs hs2 pos hp, fun w => refPut_ok p s w hv hs hs2 pos hp⟩
end
end Go.Proofs.YtnileonlabpbpaaGreat
