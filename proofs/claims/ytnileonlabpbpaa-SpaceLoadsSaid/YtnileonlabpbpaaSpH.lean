/- Areas: Load, what it gives. -/
import Derived.Test.YtnileonlabpbpaaSpG
import Derived.Test.YtnileonlabpbpaaReads
namespace Go.Proofs.Ytnileonlabpbpaa
open Go.RowKit
set_option linter.unusedVariables false
set_option maxRecDepth 20000
set_option maxRecDepth 20000

/-- what Load gives: a place, an error, the size and the pages -/
def LdR := Int × Int × Option (Nat × List ByteArray)
/-- the first wrong byte of bytes that are no page, and the error -/
theorem wrongR_ex (p : ByteArray) (hp : p.size ≤ 140737488355328) : ∃ r : Nat × Nat, WrongR p r.1 r.2 := by
  obtain ⟨a, e, h, _⟩ := wrong_any p default hp
  exact ⟨(a, e), h⟩
noncomputable def wrongN (p : ByteArray) (hp : p.size ≤ 140737488355328) : Nat × Nat := Classical.choose (wrongR_ex p hp)
theorem wrongN_is (p : ByteArray) (hp : p.size ≤ 140737488355328) : WrongR p (wrongN p hp).1 (wrongN p hp).2 := Classical.choose_spec (wrongR_ex p hp)
theorem wrong_prog (p : ByteArray) (hp : p.size ≤ 140737488355328) (w : World) :
    Calls Try.prog 16 #[.string p] w fun e w' => e = .returned (.tuple #[.int .i64 (wrongN p hp).1, .int .i64 (wrongN p hp).2]) ∧ Ext w w' := by
  obtain ⟨a, e, h, hc⟩ := wrong_any p w hp
  obtain ⟨rfl, rfl⟩ := h.uniq (wrongN_is p hp)
  exact hc
theorem wrongN_le (p : ByteArray) (hp : p.size ≤ 140737488355328) : (wrongN p hp).1 ≤ p.size := by
  have h := wrongN_is p hp
  rcases h with ⟨_, ha, _⟩ | ⟨_, _, ha, _⟩ | ⟨hh, ⟨k, hk, _, _, ha⟩, _⟩ | ⟨hh, _, _, ha, _⟩ | ⟨_, _, _, ⟨i, h1, h2, _, _, ha⟩, _⟩ | ⟨_, _, _, _, ha, _⟩
  · omega
  · omega
  · have := hh.2.2; omega
  · have := hh.2.2; omega
  · have := (topF_in p (by assumption : headR p).2.2 _ (by assumption)).2
    omega
  · omega
def markB (i : Nat) : Nat := [65, 82, 69, 65].getD i 0
/-- page i of an image, as it lies there -/
def pageAt (s : ByteArray) (n size i : Nat) : ByteArray := s.extract (8 + n + i * size) (8 + n + i * size + size)
open Classical in
noncomputable def levS (s : ByteArray) (n size : Nat) (l : List ByteArray) : Nat → Nat → LdR
  | 0, i => if 8 + n + n * size < s.size then (((8 + n + n * size : Nat) : Int), 12, none) else (0, 0, some (size, l))
  | d + 1, i => if bt s (8 + i) = levP size (nthB l i) then levS s n size l d (i + 1) else (((8 + i : Nat) : Int), 12, none)
open Classical in
noncomputable def pageS (s : ByteArray) (hs : s.size ≤ 140737488355328) (n size : Nat) : Nat → Nat → List ByteArray → LdR
  | 0, i, l => levS s n size l n 0
  | d + 1, i, l => if s.size < 8 + n + i * size + size then ((s.size : Int), 12, none)
    else if ValidR (pageAt s n size i) then pageS s hs n size d (i + 1) (l ++ [pageAt s n size i])
    else (((8 + n + i * size : Nat) : Int) + ((wrongN (pageAt s n size i) (by unfold pageAt; rw [ByteArray.size_extract]; omega)).1 : Int), 12, none)
open Classical in
noncomputable def headS (s : ByteArray) (hs : s.size ≤ 140737488355328) : LdR :=
  if s.size < 6 then ((s.size : Int), 12, none) else if sizeB (twoF s 4) = false then (4, 12, none) else if s.size < 8 then ((s.size : Int), 12, none)
  else if ¬ (1 ≤ twoF s 6 ∧ twoF s 6 ≤ 200) then (6, 12, none) else pageS s hs (twoF s 6) (twoF s 4) (twoF s 6) 0 []
open Classical in
noncomputable def markS (s : ByteArray) (hs : s.size ≤ 140737488355328) : Nat → Nat → LdR
  | 0, i => headS s hs
  | d + 1, i => if i < s.size ∧ bt s i = markB i then markS s hs d (i + 1) else ((i : Int), 12, none)
noncomputable def loadF (s : ByteArray) (hs : s.size ≤ 140737488355328) : LdR := if 900000 < s.size then (0, 3, none) else markS s hs 4 0

section
variable {s : ByteArray} {hs : s.size ≤ 140737488355328} {n size d i : Nat} {l : List ByteArray}
theorem markS_yes (h1 : i < s.size) (h2 : bt s i = markB i) : markS s hs (d + 1) i = markS s hs d (i + 1) := if_pos ⟨h1, h2⟩
theorem markS_no (h : ¬ (i < s.size ∧ bt s i = markB i)) : markS s hs (d + 1) i = ((i : Int), 12, none) := if_neg h
theorem head_six (h : s.size < 6) : headS s hs = ((s.size : Int), 12, none) := if_pos h
theorem head_size (h : ¬ s.size < 6) (h1 : sizeB (twoF s 4) = false) : headS s hs = (4, 12, none) := (if_neg h).trans (if_pos h1)
theorem head_eight (h : ¬ s.size < 6) (h1 : ¬ sizeB (twoF s 4) = false) (h2 : s.size < 8) : headS s hs = ((s.size : Int), 12, none) := (if_neg h).trans ((if_neg h1).trans (if_pos h2))
theorem head_count (h : ¬ s.size < 6) (h1 : ¬ sizeB (twoF s 4) = false) (h2 : ¬ s.size < 8) (h3 : ¬ (1 ≤ twoF s 6 ∧ twoF s 6 ≤ 200)) : headS s hs = (6, 12, none) := (if_neg h).trans ((if_neg h1).trans ((if_neg h2).trans (if_pos h3)))
theorem head_ok (h : ¬ s.size < 6) (h1 : ¬ sizeB (twoF s 4) = false) (h2 : ¬ s.size < 8) (h3 : 1 ≤ twoF s 6 ∧ twoF s 6 ≤ 200) : headS s hs = pageS s hs (twoF s 6) (twoF s 4) (twoF s 6) 0 [] :=
  (if_neg h).trans ((if_neg h1).trans ((if_neg h2).trans (if_neg (fun h => h h3))))
theorem pageAt_le (s : ByteArray) (hs : s.size ≤ 140737488355328) (n size i : Nat) : (pageAt s n size i).size ≤ 140737488355328 := by unfold pageAt; rw [ByteArray.size_extract]; omega
theorem page_short (h : s.size < 8 + n + i * size + size) : pageS s hs n size (d + 1) i l = ((s.size : Int), 12, none) := if_pos h
theorem page_yes (h : ¬ s.size < 8 + n + i * size + size) (h1 : ValidR (pageAt s n size i)) : pageS s hs n size (d + 1) i l = pageS s hs n size d (i + 1) (l ++ [pageAt s n size i]) := (if_neg h).trans (if_pos h1)
theorem page_no (h : ¬ s.size < 8 + n + i * size + size) (h1 : ¬ ValidR (pageAt s n size i)) : pageS s hs n size (d + 1) i l = (((8 + n + i * size : Nat) : Int) + ((wrongN (pageAt s n size i) (pageAt_le s hs n size i)).1 : Int), 12, none) := (if_neg h).trans (if_neg h1)
theorem lev_yes (h : bt s (8 + i) = levP size (nthB l i)) : levS s n size l (d + 1) i = levS s n size l d (i + 1) := if_pos h
theorem lev_no (h : ¬ bt s (8 + i) = levP size (nthB l i)) : levS s n size l (d + 1) i = (((8 + i : Nat) : Int), 12, none) := if_neg h
theorem lev_long (h : 8 + n + n * size < s.size) : levS s n size l 0 i = (((8 + n + n * size : Nat) : Int), 12, none) := if_pos h
theorem lev_end (h : ¬ 8 + n + n * size < s.size) : levS s n size l 0 i = (0, 0, some (size, l)) := if_neg h
end

theorem load1_any (v : Nat) (w : World) (hv : v ≤ 65535) :
    Calls Try.prog 13 #[.int .i64 v] w fun e w' => e = .returned (.bool (sizeB v)) ∧ Ext w w' := by
  have hN := fun W => new_any v W (by omega) (by omega)
  cases hz : sizeB v with
  | true =>
    obtain ⟨_, _, _, e⟩ := newP_ok v hz
    rw [e] at hN
    go_enter Try.func13, Try.ntmps13
    go_wp2_with (go_at_call 14; refine (hN _).mono ?_; rintro e w1 ⟨rfl, hx1⟩)
    go_ret
    exact ⟨rfl, hx1⟩
  | false =>
    have e : (fillRes v 0 fun _ => ((0, ⟨#[]⟩) : Cel)) = (⟨#[]⟩, 7) := by
      have hA : ¬ AnyBad (fun _ => ((0, ⟨#[]⟩) : Cel)) 0 := fun ⟨i, hi, _⟩ => by omega
      simp [fillRes, hA, hz]
    rw [e] at hN
    go_enter Try.func13, Try.ntmps13
    go_wp2_with (go_at_call 14; refine (hN _).mono ?_; rintro e w1 ⟨rfl, hx1⟩)
    go_ret
    exact ⟨rfl, hx1⟩
theorem load2_any (v : Nat) (w : World) (hv : v ≤ 65535) :
    Calls Try.prog 15 #[.int .i64 v] w fun e w' => e = .returned (.bool (decide (1 ≤ v ∧ v ≤ 200))) ∧ Ext w w' := by
  by_cases h : 1 ≤ v ∧ v ≤ 200
  · rw [decide_eq_true h]
    obtain ⟨h1, h2⟩ := h
    have c1 : (1 : Int) ≤ v := by omega
    have c2 : (v : Int) ≤ 200 := by omega
    go_enter Try.func15, Try.ntmps15
    go_wp2
    go_ret
    exact ⟨rfl, Ext.refl w⟩
  · rw [decide_eq_false h]
    by_cases h1 : 1 ≤ v
    · have c1 : (1 : Int) ≤ v := by omega
      have c2 : ¬ (v : Int) ≤ 200 := by omega
      clear h
      go_enter Try.func15, Try.ntmps15
      go_wp2
      go_ret
      exact ⟨rfl, Ext.refl w⟩
    · have c1 : ¬ (1 : Int) ≤ v := by omega
      clear h
      go_enter Try.func15, Try.ntmps15
      go_wp2
      go_ret
      exact ⟨rfl, Ext.refl w⟩
end Go.Proofs.Ytnileonlabpbpaa
