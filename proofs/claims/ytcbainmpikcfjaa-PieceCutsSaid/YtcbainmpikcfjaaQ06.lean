/- ReadC; ReadD; ReadE; Find; Own; Set; BackA; Del (merged by group.py) -/
import Derived.Test.YtcbainmpikcfjaaQ05
import Derived.Laws.EntriesVeiled
import Derived.Laws.OwnMore
import Derived.Deep.RegionLaw
namespace Go.Proofs.Ytcbainmpikcfjaa
section
open Go.RowKit
set_option linter.unusedVariables false
set_option maxRecDepth 20000

theorem nthC_append (l : List Cel) (c : Cel) (i : Nat) (h : i ≤ l.length) : nthC (l ++ [c]) i = if i < l.length then nthC l i else c := by
  unfold nthC
  rw [List.getD_eq_getElem?_getD, List.getD_eq_getElem?_getD]
  by_cases hi : i < l.length
  · rw [if_pos hi, List.getElem?_append_left hi]
  · obtain rfl : i = l.length := by omega
    rw [if_neg (by omega), List.getElem?_append_right (by omega)]
    simp
theorem nthC_mem (l : List Cel) (i : Nat) (h : i < l.length) : nthC l i ∈ l := by
  unfold nthC
  rw [List.getD_eq_getElem?_getD, List.getElem?_eq_getElem h]
  exact List.getElem_mem h
/-- the cells among the first k slots -/
structure UsedI (p : ByteArray) (k : Nat) : Prop where
  line : ∀ i, i < (usedL p k).length → 1 ≤ (nthC (usedL p k) i).1 ∧ (nthC (usedL p k) i).1 ≤ k ∧ 0 < (nthC (usedL p k) i).2.size
  up : ∀ i, 0 < i → i < (usedL p k).length → (nthC (usedL p k) (i - 1)).1 < (nthC (usedL p k) i).1
  sum : ∀ g : Nat → Cel, (∀ i, i < (usedL p k).length → g i = nthC (usedL p k) i) → bytesF g (usedL p k).length + topF p k = p.size
theorem bytesF_congr {f g : Nat → Cel} : ∀ n, (∀ i, i < n → f i = g i) → bytesF f n = bytesF g n := by
  intro n
  induction n with
  | zero => intro _; rfl
  | succ n ih => intro h; simp only [bytesF, ih (fun i hi => h i (by omega)), h n (by omega)]
theorem usedI {p : ByteArray} (hv : ValidR p) : ∀ k, k ≤ twoF p 0 → UsedI p k := by
  intro k
  induction k with
  | zero => exact fun _ => ⟨fun i hi => by simp [usedL] at hi, fun i _ hi => by simp [usedL] at hi, fun g _ => by simp [usedL, bytesF, topF]⟩
  | succ k ih =>
    intro hk
    have I := ih (by omega)
    have ht := topF_succ hv.1.2.2 hv.2.1 k (by omega)
    by_cases h0 : twoF p (4 + 4 * k) = 0
    · have e : usedL p (k + 1) = usedL p k := by simp [usedL, h0]
      rw [h0] at ht
      exact ⟨fun i hi => by rw [e] at hi ⊢; have := I.line i hi; omega, fun i h1 hi => by rw [e] at hi ⊢; exact I.up i h1 hi, fun g hg => by rw [e] at hg ⊢; have := I.sum g hg; omega⟩
    · have e : usedL p (k + 1) = usedL p k ++ [cellS p k] := by simp [usedL, h0]
      have hl := cellS_len hv k (by omega)
      have hc : (cellS p k).1 = (k : Int) + 1 := rfl
      have hlen : (usedL p k ++ [cellS p k]).length = (usedL p k).length + 1 := by simp
      refine ⟨fun i hi => ?_, fun i h1 hi => ?_, fun g hg => ?_⟩
      · rw [e, hlen] at hi
        rw [e, nthC_append _ _ _ (by omega)]
        split
        · rename_i h; have := I.line i h; omega
        · omega
      · rw [e, hlen] at hi
        rw [e, nthC_append _ _ _ (by omega), nthC_append _ _ _ (by omega), if_pos (show i - 1 < (usedL p k).length by omega)]
        split
        · rename_i h; exact I.up i h1 h
        · have := I.line (i - 1) (by omega); omega
      · rw [e, hlen] at hg ⊢
        have h1 := I.sum g (fun i hi => by rw [hg i (by omega), nthC_append _ _ _ (by omega), if_pos hi])
        have h2 := hg (usedL p k).length (by omega)
        rw [nthC_append _ _ _ (by omega), if_neg (by omega)] at h2
        have h3 : bytesF g ((usedL p k).length + 1) = bytesF g (usedL p k).length + (g (usedL p k).length).2.size := rfl
        rw [h3, h2, hl]
        omega

/-- of a valid page: how many cells, and what they are -/
noncomputable def cnt (p : ByteArray) : Nat := (usedL p (twoF p 0)).length
noncomputable def cel (p : ByteArray) : Nat → Cel := nthC (usedL p (twoF p 0))
theorem cel_good {p : ByteArray} (hv : ValidR p) : ¬ AnyBad (cel p) (cnt p) := by
  have I := usedI hv _ (Nat.le_refl _)
  rintro ⟨i, hi, hb⟩
  have h1 := I.line i hi
  have h2 := hv.1.2.1
  unfold BadF at hb
  rcases hb with h | h | ⟨h, h'⟩ | h
  · unfold cel at h; omega
  · unfold cel at h; omega
  · have := I.up i h hi; unfold cel at h'; omega
  · unfold cel at h; omega
theorem cnt_le {p : ByteArray} (hv : ValidR p) : cnt p ≤ 200 := Nat.le_trans (usedL_length p _) hv.1.2.1
theorem cel_last {p : ByteArray} (hv : ValidR p) : lastF (cel p) (cnt p) = twoF p 0 := by
  unfold lastF cnt cel
  cases hm : twoF p 0 with
  | zero => simp [usedL]
  | succ m =>
    have h1 := used_last hv m hm
    have e : usedL p (m + 1) = usedL p m ++ [cellS p m] := by simp [usedL, h1]
    rw [e]
    have hlen : (usedL p m ++ [cellS p m]).length = (usedL p m).length + 1 := by simp
    rw [hlen, if_neg (by omega), Nat.add_sub_cancel, nthC_append _ _ _ (Nat.le_refl _), if_neg (by omega)]
    rfl
theorem cel_sum {p : ByteArray} (hv : ValidR p) : bytesF (cel p) (cnt p) + topF p (twoF p 0) = p.size := (usedI hv _ (Nat.le_refl _)).sum _ (fun i hi => rfl)
theorem cel_room {p : ByteArray} (hv : ValidR p) : roomF p.size (cel p) (cnt p) = topF p (twoF p 0) - 2 - 4 * twoF p 0 := by
  have h1 := cel_last hv
  have h2 := cel_sum hv
  unfold roomF
  rw [h1]
  omega
/-- **Fill of the cells is the page.** -/
theorem fill_cells {p : ByteArray} (hv : ValidR p) : fillRes p.size (cnt p) (cel p) = (p, 0) := by
  have hg := cel_good hv
  have hs := hv.1.1
  have hr := cel_room hv
  have ht := topF_in p hv.1.2.2 _ hv.2.1
  have hr' : ¬ roomF p.size (cel p) (cnt p) < 0 := by omega
  have hf := fit_of_good hg (cnt_le hv) hs hr'
  obtain ⟨b1, b2, b3⟩ := built_page p.size (cnt p) (cel p) hg hf hs _ rfl
  have hu : usedL p (twoF p 0) = (List.range (cnt p)).map (cel p) := by
    apply List.ext_getElem
    · simp [cnt]
    · intro i h1 h2
      simp only [List.getElem_map, List.getElem_range, cel, nthC, List.getD_eq_getElem?_getD, List.getElem?_eq_getElem h1, Option.getD_some]
  have := page_unique b2 hv b1 (b3.trans hu.symm)
  simp only [fillRes, hg, hr', hs, if_false, Int.toNat_natCast]
  simp [this]
end
section
open Go.RowKit
set_option linter.unusedVariables false
set_option maxRecDepth 20000

theorem sizes_of {p : ByteArray} (hv : ValidR p) : 32 ≤ p.size ∧ p.size ≤ 4096 := by have := hv.1.1; simp [sizeB] at this; omega
theorem cel_size {p : ByteArray} (hv : ValidR p) : ∀ i, i < cnt p → (cel p i).2.size ≤ 140737488355328 := fun i hi => by
  have h1 := cel_sum hv
  have h2 := bytesF_mono (cel p) (show i + 1 ≤ cnt p by omega)
  have h3 : bytesF (cel p) (i + 1) = bytesF (cel p) i + (cel p i).2.size := rfl
  have := sizes_of hv
  omega
theorem cells_of (p : ByteArray) (w : World) (hv : ValidR p) :
    Calls Try.prog 50 #[.string p] w fun e w' => ∃ A cap, e = .returned (.slice A (cnt p) cap) ∧ SlC w' A (cnt p) (cel p) ∧ Ext w w' := cells_any p w hv

theorem quantities_any (w : World) :
    Calls Try.prog 49 #[] w fun e w' => e = .returned (.agg #[.func (.func 62) #[] #[], .func (.func 63) #[] #[]]) ∧ Ext w w' := by
  go_enter Try.func49, Try.ntmps49
  go_wp2
  exact bodyPost_ret (v := .agg #[.func (.func 62) #[] #[], .func (.func 63) #[] #[]]) (by simp [results, Try.results49, go_sem]) rfl ⟨rfl, (Ext.refl w).alloc _⟩
theorem quantity1_any (size : Int) (A : Option Addr) (cap n : Nat) (f : Nat → Cel) (w : World) (hz0 : 0 ≤ size) (hz1 : size ≤ 4096) (hn : n ≤ 200) (hs : SlC w A n f) (hsz : ∀ i, i < n → (f i).2.size ≤ 140737488355328) (hl0 : -4096 ≤ lastF f n) (hl1 : lastF f n ≤ 4096) :
    Calls Try.prog 62 #[.int .i64 size, .slice A n cap] w fun e w' => e = .returned (.int .i64 (roomF size f n)) ∧ Ext w w' := by
  have hb := bytesF_le f n hsz
  have hmul : n * 140737488355328 ≤ 200 * 140737488355328 := Nat.mul_le_mul_right _ (by omega)
  have hr : needsF f n = 2 + 4 * lastF f n + bytesF f n := rfl
  go_enter Try.func62, Try.ntmps62
  go_wp2_with (go_at_call 59; refine (needs_any A cap n f _ hn hs hsz hl0 hl1).mono ?_; rintro e w1 ⟨rfl, hx1⟩)
  go_ret
  exact ⟨ret_int (by unfold roomF; omega), hx1⟩

def quantV : Value := .agg #[.func (.func 62) #[] #[], .func (.func 63) #[] #[]]
theorem index0 (w : World) : (Instr.index 94 (.agg #[.func (.func 62) #[] #[], .func (.func 63) #[] #[]]) (.int .i64 0)).run Try.prog w = .ok (.func (.func 62) #[] #[]) w := by kernel_rfl
theorem index1 (w : World) : (Instr.index 94 (.agg #[.func (.func 62) #[] #[], .func (.func 63) #[] #[]]) (.int .i64 1)).run Try.prog w = .ok (.func (.func 63) #[] #[]) w := by kernel_rfl
theorem free_ok (p : ByteArray) (w : World) (hv : ValidR p) :
    Calls Try.prog 35 #[.string p] w fun e w' => e = .returned (.tuple #[.int .i64 (roomF p.size (cel p) (cnt p)), .int .i64 0]) ∧ Ext w w' := by
  obtain ⟨z1, z2⟩ := sizes_of hv
  have hl := cel_last hv
  have hl0 : -4096 ≤ lastF (cel p) (cnt p) := by rw [hl]; omega
  have hl1 : lastF (cel p) (cnt p) ≤ 4096 := by rw [hl]; have := hv.1.2.1; omega
  have hC := fun W => cells_of p W hv
  have hS := cel_size hv
  have hn := cnt_le hv
  clear hl
  generalize cnt p = n at *
  generalize cel p = f at *
  have hix := index0
  go_enter Try.func35, Try.ntmps35
  go_wp2_with (first
    | (go_at_call 48; refine (valid_any p _ (by omega)).mono ?_; rintro e w1 ⟨rfl, hx1⟩; rw [decide_eq_true hv])
    | (go_at_call 49; refine (quantities_any _).mono ?_; rintro e w2 ⟨rfl, hx2⟩)
    | (go_at_call 50; refine (hC _).mono ?_; rintro e w3 ⟨A, cap, rfl, hs, hx3⟩)
    | (go_at_call 62; refine (quantity1_any p.size A cap n f _ (by omega) (by omega) hn hs hS hl0 hl1).mono ?_; rintro e w4 ⟨rfl, hx4⟩))
  go_ret2
  exact ⟨rfl, ((hx1.trans hx2).trans hx3).trans hx4⟩
theorem free_no (p : ByteArray) (w : World) (hp : p.size ≤ 140737488355328) (hv : ¬ ValidR p) :
    Calls Try.prog 35 #[.string p] w fun e w' => e = .returned (.tuple #[.int .i64 0, .int .i64 1]) ∧ Ext w w' := by
  go_enter Try.func35, Try.ntmps35
  go_wp2_with (go_at_call 48; refine (valid_any p _ hp).mono ?_; rintro e w1 ⟨rfl, hx1⟩; rw [decide_eq_false hv])
  go_ret2
  exact ⟨rfl, hx1⟩
end
section
open Go.RowKit
set_option linter.unusedVariables false
set_option maxRecDepth 20000

/-- the least free line, as the program counts -/
def nextF (f : Nat → Cel) : Nat → Nat
  | 0 => 1
  | k + 1 => if (f k).1 = nextF f k then nextF f k + 1 else nextF f k
structure NextI (f : Nat → Cel) (k : Nat) : Prop where
  used : ∀ m : Nat, 1 ≤ m → m < nextF f k → ∃ i, i < k ∧ (f i).1 = m
  free : ∀ i, i < k → (f i).1 ≠ nextF f k
  ge : 1 ≤ nextF f k
  le : nextF f k ≤ 201
theorem nextI {f : Nat → Cel} {n : Nat} (hg : ¬ AnyBad f n) : ∀ k, k ≤ n → NextI f k := by
  intro k
  induction k with
  | zero => exact fun _ => ⟨fun m h1 h2 => by simp [nextF] at h2; omega, fun i hi => by omega, by simp [nextF], by simp [nextF]⟩
  | succ k ih =>
    intro hk
    have I := ih (by omega)
    have hgk := good_at hg k (by omega)
    by_cases h : (f k).1 = nextF f k
    · have e : nextF f (k + 1) = nextF f k + 1 := by simp [nextF, h]
      refine ⟨fun m h1 h2 => ?_, fun i hi => ?_, ?_, ?_⟩
      · rw [e] at h2
        by_cases hm : m = nextF f k
        · exact ⟨k, by omega, by rw [h, hm]⟩
        · obtain ⟨i, hi, he⟩ := I.used m h1 (by omega)
          exact ⟨i, by omega, he⟩
      · rw [e]
        by_cases hik : i = k
        · rw [hik]; omega
        · have := line_lt hg i k (by omega) (by omega); omega
      · omega
      · omega
    · have e : nextF f (k + 1) = nextF f k := by simp [nextF, h]
      refine ⟨fun m h1 h2 => ?_, fun i hi => ?_, by rw [e]; exact I.ge, by rw [e]; exact I.le⟩
      · rw [e] at h2
        obtain ⟨i, hi, he⟩ := I.used m h1 h2
        exact ⟨i, by omega, he⟩
      · rw [e]
        by_cases hik : i = k
        · rw [hik]; exact h
        · exact I.free i (by omega)

theorem quantity2_any (size : Int) (A : Option Addr) (cap n : Nat) (f : Nat → Cel) (w : World) (hn : n ≤ 200) (hs : SlC w A n f) (hg : ¬ AnyBad f n) :
    Calls Try.prog 63 #[.int .i64 size, .slice A n cap] w fun e w' => e = .returned (.int .i64 (nextF f n)) ∧ Ext w w' := by
  have hI := fun k hk => nextI hg k hk
  clear hg
  go_enter Try.func63, Try.ntmps63
  go_wp2
  go_loopw [5, 10] (fun x i wr => ∃ k : Nat, k ≤ n ∧ i = .int .i64 k ∧ x = .int .i64 (nextF f k) ∧ Ext w wr) (fun _ i _ => n - (intOf i).toNat)
  case atStart => exact ⟨0, by omega, rfl, rfl, Ext.refl w⟩
  case round =>
    obtain ⟨k, hk, rfl, rfl, hx⟩ := hrel
    by_cases hlt : k < n
    · obtain ⟨b, off, rfl, h1, h2⟩ := hs.at_ k hlt
      replace h1 := hx.cell h1
      replace h2 := hx.cell h2
      have hle := (hI k hk).le
      have e : nextF f (k + 1) = if (f k).1 = nextF f k then nextF f k + 1 else nextF f k := rfl
      by_cases c : (f k).1 = nextF f k
      · rw [if_pos c] at e
        have E := Lib.hid e
        clear e hI
        generalize nextF f k = m at *
        go_wp2
        exact ⟨⟨k + 1, by omega, by go_num, by rw [E.out]; go_num, hx.alloc _⟩, by simp [intOf]; omega⟩
      · rw [if_neg c] at e
        have E := Lib.hid e
        clear e hI
        generalize nextF f k = m at *
        go_wp2
        exact ⟨⟨k + 1, by omega, by go_num, by rw [E.out], hx.alloc _⟩, by simp [intOf]; omega⟩
    · obtain rfl : k = n := by omega
      go_wp2
      go_ret
      exact ⟨rfl, hx⟩





theorem next_ok (p : ByteArray) (w : World) (hv : ValidR p) :
    Calls Try.prog 57 #[.string p] w fun e w' => e = .returned (if nextF (cel p) (cnt p) ≤ 200 then .tuple #[.int .i64 (nextF (cel p) (cnt p)), .int .i64 0] else .tuple #[.int .i64 0, .int .i64 13]) ∧ Ext w w' := by
  obtain ⟨z1, z2⟩ := sizes_of hv
  have hC := fun W => cells_of p W hv
  have hG := cel_good hv
  have hn := cnt_le hv
  have hI := (nextI hG _ (Nat.le_refl _)).le
  generalize cnt p = n at *
  generalize cel p = f at *
  have hix := index1
  have hQ := fun A cap W hs => quantity2_any p.size A cap n f W hn hs hG
  generalize nextF f n = m at *
  by_cases h2 : m ≤ 200
  · rw [if_pos h2]
    go_enter Try.func57, Try.ntmps57
    go_wp2_with (first
      | (go_at_call 48; refine (valid_any p _ (by omega)).mono ?_; rintro e w1 ⟨rfl, hx1⟩; rw [decide_eq_true hv])
      | (go_at_call 49; refine (quantities_any _).mono ?_; rintro e w2 ⟨rfl, hx2⟩)
      | (go_at_call 50; refine (hC _).mono ?_; rintro e w3 ⟨A, cap, rfl, hs, hx3⟩)
      | (go_at_call 63; refine (hQ A cap _ hs).mono ?_; rintro e w4 ⟨rfl, hx4⟩))
    go_ret2
    exact ⟨rfl, ((hx1.trans hx2).trans hx3).trans hx4⟩
  · rw [if_neg h2]
    have h3 : (200 : Int) < m := by omega
    go_enter Try.func57, Try.ntmps57
    go_wp2_with (first
      | (go_at_call 48; refine (valid_any p _ (by omega)).mono ?_; rintro e w1 ⟨rfl, hx1⟩; rw [decide_eq_true hv])
      | (go_at_call 49; refine (quantities_any _).mono ?_; rintro e w2 ⟨rfl, hx2⟩)
      | (go_at_call 50; refine (hC _).mono ?_; rintro e w3 ⟨A, cap, rfl, hs, hx3⟩)
      | (go_at_call 63; refine (hQ A cap _ hs).mono ?_; rintro e w4 ⟨rfl, hx4⟩))
    go_ret2
    exact ⟨rfl, ((hx1.trans hx2).trans hx3).trans hx4⟩
theorem next_no (p : ByteArray) (w : World) (hp : p.size ≤ 140737488355328) (hv : ¬ ValidR p) :
    Calls Try.prog 57 #[.string p] w fun e w' => e = .returned (.tuple #[.int .i64 0, .int .i64 1]) ∧ Ext w w' := by
  go_enter Try.func57, Try.ntmps57
  go_wp2_with (go_at_call 48; refine (valid_any p _ hp).mono ?_; rintro e w1 ⟨rfl, hx1⟩; rw [decide_eq_false hv])
  go_ret2
  exact ⟨rfl, hx1⟩
end
section
open Go.RowKit
set_option linter.unusedVariables false
set_option maxRecDepth 20000

theorem asked_no (p : ByteArray) (x : Int) (w : World) (hp : p.size ≤ 140737488355328) (hv : ¬ ValidR p) :
    Calls Try.prog 51 #[.string p, .int .i64 x] w fun e w' => e = .returned (.int .i64 1) ∧ Ext w w' := by
  go_enter Try.func51, Try.ntmps51
  go_wp2_with (go_at_call 48; refine (valid_any p _ hp).mono ?_; rintro e w1 ⟨rfl, hx1⟩; rw [decide_eq_false hv])
  go_ret
  exact ⟨rfl, hx1⟩
theorem asked_ok (p : ByteArray) (x : Int) (w : World) (hv : ValidR p) (h0 : -9223372036854775808 ≤ x) (h1 : x ≤ 9223372036854775807) :
    Calls Try.prog 51 #[.string p, .int .i64 x] w fun e w' => e = .returned (.int .i64 (if lineB x then 0 else 7)) ∧ Ext w w' := by
  obtain ⟨z1, z2⟩ := sizes_of hv
  cases hl : lineB x with
  | true =>
    go_enter Try.func51, Try.ntmps51
    go_wp2_with (first
      | (go_at_call 48; refine (valid_any p _ (by omega)).mono ?_; rintro e w1 ⟨rfl, hx1⟩; rw [decide_eq_true hv])
      | (go_at_call 45; refine (line_any x _ h0 h1).mono ?_; rintro e w2 ⟨rfl, rfl⟩; rw [hl]))
    go_ret
    exact ⟨rfl, hx1⟩
  | false =>
    go_enter Try.func51, Try.ntmps51
    go_wp2_with (first
      | (go_at_call 48; refine (valid_any p _ (by omega)).mono ?_; rintro e w1 ⟨rfl, hx1⟩; rw [decide_eq_true hv])
      | (go_at_call 45; refine (line_any x _ h0 h1).mono ?_; rintro e w2 ⟨rfl, rfl⟩; rw [hl]))
    go_ret
    exact ⟨rfl, hx1⟩

/-- where a line stands among cells in order, or would -/
structure PosI (n : Nat) (f : Nat → Cel) (x : Int) (pos : Nat) : Prop where
  le : pos ≤ n
  below : ∀ i, i < pos → (f i).1 < x
  above : ∀ i, pos ≤ i → i < n → x ≤ (f i).1
theorem pos_of {n : Nat} {f : Nat → Cel} (hg : ¬ AnyBad f n) (x : Int) : ∃ pos, PosI n f x pos := by
  obtain ⟨pos, h1, hmin⟩ := least_of (Q := fun i => i = n ∨ (i < n ∧ x ≤ (f i).1)) ⟨n, .inl rfl⟩
  have hle : pos ≤ n := by rcases h1 with h | h <;> omega
  refine ⟨pos, hle, fun i hi => ?_, fun i h2 h3 => ?_⟩
  · apply Classical.byContradiction
    intro hc
    exact hmin i hi (.inr ⟨by omega, by omega⟩)
  · rcases h1 with h | ⟨h, h'⟩
    · omega
    · have := lines_up hg pos i h2 h3
      omega

theorem cmp_any (c : Cel) (x : Int) (w : World) (h1 : -1000 ≤ c.1 ∧ c.1 ≤ 1000) (h2 : -1000 ≤ x ∧ x ≤ 1000) :
    Calls Try.prog 67 #[.agg #[.int .i64 c.1, .string c.2], .int .i64 x] w fun e w' => e = .returned (.int .i64 (c.1 - x)) ∧ Ext w w' := by
  go_enter Try.func67, Try.ntmps67
  go_wp2
  go_ret
  exact ⟨rfl, (Ext.refl w).alloc _⟩

theorem ret_found {p : Int} {a b : Bool} (h : a = b) : Ending.returned (.tuple #[.int .i64 p, .bool a]) = .returned (.tuple #[.int .i64 p, .bool b]) := by rw [h]
set_option maxHeartbeats 1000000 in
theorem search_any (A : Option Addr) (cap n : Nat) (f : Nat → Cel) (x : Int) (w : World) (hn : n ≤ 200) (hs : SlC w A n f) (hg : ¬ AnyBad f n) (h2 : 1 ≤ x ∧ x ≤ 200) (pos : Nat) (hp : PosI n f x pos) :
    Calls Try.prog 66 #[.slice A n cap, .int .i64 x, .func (.func 67) #[] #[]] w fun e w' => e = .returned (.tuple #[.int .i64 pos, .bool (decide (pos < n ∧ (f pos).1 = x))]) ∧ Ext w w' := by
  have hc := fun i (hi : i < n) W => cmp_any (f i) x W (by have := good_at hg i hi; omega) (by omega)
  have hle := hp.le
  go_enter Try.func66, Try.ntmps66
  go_wp2
  go_loopw [9, 10] (fun a b wr => ∃ i j : Nat, i ≤ pos ∧ pos ≤ j ∧ j ≤ n ∧ a = .int .i64 i ∧ b = .int .i64 j ∧ Ext w wr) (fun a b _ => (intOf b).toNat - (intOf a).toNat)
  case atStart => exact ⟨0, n, by omega, by omega, by omega, rfl, rfl, Ext.refl w⟩
  case round =>
    obtain ⟨i, j, h3, h4, h5, rfl, rfl, hx⟩ := hrel
    by_cases hlt : i < j
    · obtain ⟨b, off, rfl, g1, g2⟩ := hs.at_ ((i + j) / 2) (by omega)
      replace g1 := hx.cell g1
      replace g2 := hx.cell g2
      have hh := hc ((i + j) / 2) (by omega)
      have E1 := Lib.hid (show ((i : Int) + j) / 2 = (((i + j) / 2 : Nat) : Int) by omega)
      by_cases c : (f ((i + j) / 2)).1 < x
      · have hpos : (i + j) / 2 < pos := by
          apply Classical.byContradiction
          intro hc'
          have := hp.above ((i + j) / 2) (by omega) (by omega)
          omega
        have d1 : (f ((i + j) / 2)).1 - x < 0 := by omega
        go_wp2_with (go_at_call 67; refine (hh _).mono ?_; rintro e w1 ⟨rfl, hx1⟩)
        exact ⟨⟨(i + j) / 2 + 1, j, by omega, by omega, by omega, by rw [E1.out]; go_num, rfl, hx.trans hx1⟩, by simp [intOf]; omega⟩
      · have hpos : pos ≤ (i + j) / 2 := by
          apply Classical.byContradiction
          intro hc'
          have := hp.below ((i + j) / 2) (by omega)
          omega
        have d1 : ¬ (f ((i + j) / 2)).1 - x < 0 := by omega
        go_wp2_with (go_at_call 67; refine (hh _).mono ?_; rintro e w1 ⟨rfl, hx1⟩)
        exact ⟨⟨i, (i + j) / 2, by omega, by omega, by omega, rfl, by rw [E1.out], hx.trans hx1⟩, by simp [intOf]; omega⟩
    · obtain rfl : i = j := by omega
      obtain rfl : i = pos := by omega
      by_cases hin : i < n
      · obtain ⟨b, off, rfl, g1, g2⟩ := hs.at_ i hin
        replace g1 := hx.cell g1
        replace g2 := hx.cell g2
        have hh := hc i hin
        go_wp2_with (go_at_call 67; refine (hh _).mono ?_; rintro e w1 ⟨rfl, hx1⟩)
        go_ret2
        refine ⟨ret_found ?_, hx.trans hx1⟩
        by_cases e : (f i).1 = x
        · simp [hin, e]
        · have : ¬ (f i).1 - x = 0 := by omega
          simp [hin, e, this]
      · go_wp2
        go_ret2
        exact ⟨ret_found (by simp [hin]), hx⟩

theorem find_any (A : Option Addr) (cap n : Nat) (f : Nat → Cel) (x : Int) (w : World) (hn : n ≤ 200) (hs : SlC w A n f) (hg : ¬ AnyBad f n) (h2 : 1 ≤ x ∧ x ≤ 200) (pos : Nat) (hp : PosI n f x pos) :
    Calls Try.prog 52 #[.slice A n cap, .int .i64 x] w fun e w' => e = .returned (.tuple #[.int .i64 pos, .bool (decide (pos < n ∧ (f pos).1 = x))]) ∧ Ext w w' := by
  go_enter Try.func52, Try.ntmps52
  go_wp2_with (go_at_call 66; refine (search_any A cap n f x _ hn hs hg h2 pos hp).mono ?_; rintro e w1 ⟨rfl, hx1⟩)
  go_ret2
  exact ⟨ret_found (by simp), hx1⟩
end
section
open Go.RowKit
set_option linter.unusedVariables false
set_option maxRecDepth 20000

theorem cellsOwn_any (p : ByteArray) (w : World) (hv : ValidR p) :
    Calls Try.prog 50 #[.string p] w fun e w' => ∃ v, e = .returned v ∧ w'.ownsRow w.heap.size 91 2 v (usedL p (twoF p 0)).length (flatC (usedL p (twoF p 0))) ∧ Ext w w' := by
  have hz := sizes_of hv
  have hc : (w.alloc (.cells #[.string p] 9)).cell? ⟨w.heap.size, 0, none⟩ = some (.string p) := (Boxed.new w 9 (.string p)).cell
  have hmf : ∀ (fn : Fn) (first cap : Array Value) (w : World), (Instr.makeFunc fn first cap).run Try.prog w = .ok (.func fn first cap) w := fun _ _ _ _ => rfl
  go_enter Try.func50, Try.ntmps50
  go_wp2_with (go_at_call 64; refine (gather_any p _ _ hz.1 hz.2 hv.1.2.2 hc (fun k hk => slot_le hv k hk)).mono ?_; rintro e w1 ⟨v, rfl, hown, hx⟩)
  go_ret
  exact ⟨v, rfl, ownsRow_base hown (by simp), ((Ext.refl w).alloc _).trans hx⟩

/-- cells of a list, by its index -/
theorem nthC_set (l : List Cel) (i : Nat) (c : Cel) (j : Nat) (hi : i < l.length) : nthC (l.set i c) j = if j = i then c else nthC l j := by
  unfold nthC
  rw [List.getD_eq_getElem?_getD, List.getD_eq_getElem?_getD, List.getElem?_set]
  by_cases h : i = j
  · subst h
    simp [hi]
  · rw [if_neg h, if_neg (fun e => h e.symm)]

theorem filled_any (size : Nat) (A : Option Addr) (cap n : Nat) (f : Nat → Cel) (w : World) (hn : n ≤ 200) (hs : SlC w A n f) (hg : ¬ AnyBad f n) (hsz : ∀ i, i < n → (f i).2.size ≤ 140737488355328) (hz : sizeB (size : Int) = true) :
    Calls Try.prog 47 #[.int .i64 size, .slice A n cap] w fun e w' => e = .returned (.tuple #[.string (filledRes size n f).1, .int .i64 (filledRes size n f).2]) ∧ Ext w w' := by
  have hgd := good_of hg hsz
  have hz' : 32 ≤ size ∧ size ≤ 4096 := by simp [sizeB] at hz; omega
  unfold filledRes
  by_cases hr : roomF size f n < 0
  · rw [if_pos hr]
    exact filled_full size A cap n f w hn hs hgd hz'.2 hr
  · rw [if_neg hr]
    have hf := fit_of_good hg hn hz hr
    rcases Nat.eq_zero_or_pos n with h0 | h0
    · subst h0
      exact filled_none size A cap f w hf
    · exact filled_fits size A cap n f w h0 hn hs hgd hf

theorem flatC_set (l : List Cel) : ∀ (i : Nat) (s : ByteArray), i < l.length → flatC (l.set i ((nthC l i).1, s)) = (flatC l).set (i * 2 + 1) (.string s) := by
  induction l with
  | nil => intro i s hi; simp at hi
  | cons c l ih =>
    intro i s hi
    cases i with
    | zero => simp [flatC, nthC]
    | succ i =>
      have e : (i + 1) * 2 + 1 = i * 2 + 1 + 1 + 1 := by omega
      have h := ih i s (by simpa using hi)
      rw [e]
      simp only [List.set_cons_succ]
      have e2 : nthC (c :: l) (i + 1) = nthC l i := rfl
      rw [e2]
      have e3 : ∀ m : List Cel, flatC (c :: m) = .int .i64 c.1 :: .string c.2 :: flatC m := fun m => by simp [flatC]
      rw [e3, e3, h]
      simp
end
section
open Go.RowKit
set_option linter.unusedVariables false
set_option maxRecDepth 20000

/-- cells with other data at one place -/
def setF (f : Nat → Cel) (pos : Nat) (s : ByteArray) (i : Nat) : Cel := if i = pos then ((f pos).1, s) else f i
theorem setF_good {n : Nat} {f : Nat → Cel} (hg : ¬ AnyBad f n) (pos : Nat) (s : ByteArray) (hs : 0 < s.size) : ¬ AnyBad (setF f pos s) n := by
  rintro ⟨i, hi, hb⟩
  have h1 := good_at hg i hi
  have e1 : ∀ j, (setF f pos s j).1 = (f j).1 := fun j => by unfold setF; split <;> simp_all
  unfold BadF at hb
  rw [e1, e1] at hb
  rcases hb with h | h | ⟨h, h'⟩ | h
  · omega
  · omega
  · have := line_lt hg (i - 1) i (by omega) hi; omega
  · unfold setF at h
    split at h
    · have h' : s.size = 0 := h
      omega
    · omega

theorem frozen_ext {a b : World} (h : Ext a b) {p : Addr} (hp : p.block < a.heap.size) : b.frozen? p = a.frozen? p := World.frozen?_of_block (h.block hp)
end
section
open Go.RowKit
set_option linter.unusedVariables false
set_option maxRecDepth 20000

theorem setF_same (f : Nat → Cel) (pos : Nat) : setF f pos (f pos).2 = f := by
  funext i
  unfold setF
  split
  · rename_i h; rw [h]
  · rfl
theorem filled_cells {p : ByteArray} (hv : ValidR p) : filledRes p.size (cnt p) (cel p) = (p, 0) := by
  have h := fill_cells hv
  have hg := cel_good hv
  have hs := hv.1.1
  have hr : ¬ roomF p.size (cel p) (cnt p) < 0 := by
    have hr := cel_room hv
    have ht := topF_in p hv.1.2.2 _ hv.2.1
    omega
  unfold filledRes
  rw [if_neg hr]
  simp only [fillRes, hg, hr, hs, if_false, Int.toNat_natCast] at h
  simpa using h
end
section
open Go.RowKit
set_option linter.unusedVariables false
set_option maxRecDepth 20000

theorem ownsRow_head {w : World} {base : Nat} {g n cap : Nat} {xs : List Value} (h : w.ownsRow base 91 2 (.slice (some ⟨g, 0, none⟩) n cap) n xs) (i : Nat) (hi : i ≤ n) :
    w.ownsRow base 91 2 (.slice (some ⟨g, 0, none⟩) i cap) i (xs.take (i * 2)) := by
  refine ⟨by rw [List.length_take, h.1]; omega, ?_⟩
  rcases h.2 with ⟨h', _⟩ | ⟨g', cap', cur, h', hb, hg, hnc, hcm, hcs, htake⟩
  · simp at h'
  · simp only [Value.slice.injEq, Option.some.injEq, Addr.mk.injEq, and_true, true_and] at h'
    obtain ⟨rfl, rfl⟩ := h'
    refine .inr ⟨g, cap, cur, rfl, hb, hg, by omega, hcm, hcs, ?_⟩
    rw [← htake, List.take_take]
    congr 1
    omega
theorem flatC_take (l : List Cel) (i : Nat) : (flatC l).take (i * 2) = flatC (l.take i) := by
  induction l generalizing i with
  | nil => simp [flatC]
  | cons c l ih =>
    cases i with
    | zero => simp [flatC]
    | succ i =>
      have e : (i + 1) * 2 = i * 2 + 1 + 1 := by omega
      have h := ih i
      simp only [flatC, List.flatMap_cons, List.cons_append, List.nil_append, List.take_succ_cons, e] at h ⊢
      rw [h]
theorem flatC_drop (l : List Cel) (i : Nat) : (flatC l).drop (i * 2) = flatC (l.drop i) := by
  induction l generalizing i with
  | nil => simp [flatC]
  | cons c l ih =>
    cases i with
    | zero => simp
    | succ i =>
      have e : (i + 1) * 2 = i * 2 + 1 + 1 := by omega
      have h := ih i
      simp only [flatC, List.flatMap_cons, List.cons_append, List.nil_append, List.drop_succ_cons, e] at h ⊢
      rw [h]

/-- a cell of an owned row's block, filled or spare -/
theorem spare_some {w : World} {base : Nat} {e : TypeId} {size g n cap : Nat} {xs : List Value} (h : w.ownsRow base e size (.slice (some ⟨g, 0, none⟩) n cap) n xs) (j : Nat) (hj : j < cap * size) : (w.cell? ⟨g, j, none⟩).isSome = true := by
  rcases h.2 with ⟨h', _⟩ | ⟨g', cap', cur, h', hb, hg, hnc, hcm, hcs, htake⟩
  · simp at h'
  · simp only [Value.slice.injEq, Option.some.injEq, Addr.mk.injEq, and_true, true_and] at h'
    obtain ⟨rfl, rfl⟩ := h'
    rw [cell_of_row w g j cur e (0, 0) hg]
    simp [hcs, hj]
theorem clear_one (g o c : Nat) (w : World) (x y : Value) (h1 : w.cell? ⟨g, o, none⟩ = some x) (h2 : w.cell? ⟨g, o + 1, none⟩ = some y) (f1 : w.frozen? ⟨g, o, none⟩ = false) (f2 : w.frozen? ⟨g, o + 1, none⟩ = false) :
    (Builtin.clear_ #[89] 0 #[.slice (some ⟨g, o, none⟩) 1 c]).run Try.prog w = .ok (.tuple #[]) ((w.setCell ⟨g, o, none⟩ (.int .i64 0)).setCell ⟨g, o + 1, none⟩ (.string ⟨#[]⟩)) := by
  unfold Builtin.clear_
  go_simp
  have e : (Builtin.zeroCells #[Value.int IntKind.i64 0, Value.string { data := #[] }] 1).toList = [.int .i64 0, .string ⟨#[]⟩] := by simp [Builtin.zeroCells, Array.range]
  rw [e]
  have n1 : (⟨g, o, none⟩ : Addr) ≠ ⟨g, o + 1, none⟩ := fun h => by have := congrArg Addr.off h; simp at this
  have g2 : (w.setCell ⟨g, o, none⟩ (.int .i64 0)).cell? ⟨g, o + 1, none⟩ = some y := by rw [World.cell?_setCell_other _ _ _ _ n1]; exact h2
  have g3 : (w.setCell ⟨g, o, none⟩ (.int .i64 0)).frozen? ⟨g, o + 1, none⟩ = false := by rw [World.frozen?_setCell]; exact f2
  go_simp

set_option maxHeartbeats 1000000 in
theorem delete_any (L : List Cel) (g cap base : Nat) (i : Nat) (w : World) (hL : L.length ≤ 200) (hi : i < L.length) (hown : w.ownsRow base 91 2 (.slice (some ⟨g, 0, none⟩) L.length cap) L.length (flatC L)) :
    Calls Try.prog 53 #[.slice (some ⟨g, 0, none⟩) L.length cap, .int .i64 i, .int .i64 (i + 1)] w fun e w' =>
      e = .returned (.slice (some ⟨g, 0, none⟩) (L.length - 1) cap) ∧ w'.ownsRow base 91 2 (.slice (some ⟨g, 0, none⟩) (L.length - 1) cap) (L.length - 1) (flatC (L.eraseIdx i)) ∧ Upd w g w' := by
  have hnc : L.length ≤ cap := by
    rcases hown.2 with ⟨h', _⟩ | ⟨g', cap', cur, h', hb, hg, hnc, _⟩
    · simp at h'
    · simp only [Value.slice.injEq, Option.some.injEq, Addr.mk.injEq, and_true, true_and] at h'
      omega
  have hcap : cap ≤ 9223372036854775807 := by
    rcases hown.2 with ⟨h', _⟩ | ⟨g', cap', cur, h', hb, hg, _, hm, _⟩
    · simp at h'
    · simp only [Value.slice.injEq, Option.some.injEq, Addr.mk.injEq, and_true, true_and] at h'
      simp only [maxLen] at hm
      omega
  have q1 : (i : Int) + 1 ≤ L.length := by omega
  have q2 : (i : Int) ≤ cap := by omega
  have q3 : (L.length : Int) ≤ cap := by omega
  have q4 : ((i : Int) + 1).toNat = i + 1 := by omega
  have q5 : (0 : Int) ≤ (i : Int) + 1 := by omega
  have q6 : (i : Int) ≤ (i : Int) + 1 := by omega
  have q7 : ¬ (i : Int) = (i : Int) + 1 := by omega
  have hh := ownsRow_head (w := w.drew) (n := L.length) (ownsRow_ext hown ((Ext.refl w).drew)) i (by omega)
  have hdrop : ((flatC L).drop ((i + 1) * 2)).length = (L.length - (i + 1)) * 2 := by rw [flatC_drop, flatC_length, List.length_drop]
  have hrun : ∃ w1, (Builtin.append_ #[89, 89] 89 #[.slice (some ⟨g, 0, none⟩) i cap, .slice (if cap = i + 1 then some ⟨g, 0, none⟩ else some ⟨g, (i + 1) * 2, none⟩) (L.length - (i + 1)) (cap - (i + 1))]).run Try.prog w.drew = .ok (.slice (some ⟨g, 0, none⟩) (i + (L.length - (i + 1))) cap) w1 ∧
      w1.ownsRow base 91 2 (.slice (some ⟨g, 0, none⟩) (i + (L.length - (i + 1))) cap) (i + (L.length - (i + 1))) ((flatC L).take (i * 2) ++ (flatC L).drop ((i + 1) * 2)) ∧ w.drew.grownBy w1 (some g) := by
    obtain ⟨i0, hi0, hz0, hz1, hz2⟩ := info_parts Try.infoC
    have hone : ∀ u ∈ (flatC L).drop ((i + 1) * 2), u.oneCell' = true := fun u hu => by
      have := List.mem_of_mem_drop hu
      simp only [flatC, List.mem_flatMap] at this
      obtain ⟨c, _, hc⟩ := this
      simp at hc
      rcases hc with rfl | rfl <;> rfl
    by_cases hc : cap = i + 1
    · rw [if_pos hc]
      have e0 : L.length - (i + 1) = 0 := by omega
      have e1 : (flatC L).drop ((i + 1) * 2) = [] := by rw [← List.length_eq_zero_iff, hdrop, e0]
      refine run_append_fits (P := Try.prog) _ base _ _ 91 i0 2 Try.underlying89 hi0 hz1 g i cap _ hh ⟨g, 0, none⟩ _ _ _ hdrop (fun j u hj => ?_) hone (by omega)
      rw [e1] at hj
      simp at hj
    · rw [if_neg hc]
      refine run_append_fits (P := Try.prog) _ base _ _ 91 i0 2 Try.underlying89 hi0 hz1 g i cap _ hh ⟨g, (i + 1) * 2, none⟩ _ _ _ hdrop (fun j u hj => ?_) hone (by omega)
      rw [List.getElem?_drop] at hj
      have hjl : (i + 1) * 2 + j < (flatC L).length := (List.getElem?_eq_some_iff.1 hj).1
      rw [flatC_length] at hjl
      have := hown.cellAt ((i + 1) * 2 + j) hjl
      rw [Go.WideShapes.add_plain]
      exact this.trans hj
  obtain ⟨w1, hrun, hown1, hgr⟩ := hrun
  have hk : ∃ k, k + 1 = L.length := ⟨L.length - 1, by omega⟩
  obtain ⟨k, hk⟩ := hk
  have ek : i + (L.length - (i + 1)) = k := by omega
  rw [ek] at hrun hown1
  have hown2 : w1.ownsRow base 91 2 (.slice (some ⟨g, 0, none⟩) k cap) k (flatC (L.eraseIdx i)) := by
    rw [flatC_take, flatC_drop] at hown1
    rw [List.eraseIdx_eq_take_drop_succ]
    have : flatC (L.take i) ++ flatC (L.drop (i + 1)) = flatC (L.take i ++ L.drop (i + 1)) := by simp [flatC]
    rw [← this]
    exact hown1
  clear hown1
  have hu1 : Upd w g w1 := (Upd.refl w g).drew.trans hgr
  have hsp : (w1.cell? ⟨g, k * 2, none⟩).isSome = true ∧ (w1.cell? ⟨g, k * 2 + 1, none⟩).isSome = true ∧ w1.frozen? ⟨g, k * 2, none⟩ = false ∧ w1.frozen? ⟨g, k * 2 + 1, none⟩ = false := by
    refine ⟨?_, ?_, hown2.frozenAt _, hown2.frozenAt _⟩ <;> exact spare_some hown2 _ (by omega)
  obtain ⟨s1, s2, f1, f2⟩ := hsp
  obtain ⟨x, s1⟩ := Option.isSome_iff_exists.1 s1
  obtain ⟨y, s2⟩ := Option.isSome_iff_exists.1 s2
  have hclr := clear_one g (k * 2) (cap - k) w1 x y s1 s2 f1 f2
  have hout : ((w1.setCell ⟨g, k * 2, none⟩ (.int .i64 0)).setCell ⟨g, k * 2 + 1, none⟩ (.string ⟨#[]⟩)).ownsRow base 91 2 (.slice (some ⟨g, 0, none⟩) k cap) k (flatC (L.eraseIdx i)) := by
    have e1 := (hown2.stored (k * 2) (.int .i64 0)).1
    have hl := hown2.1
    rw [List.set_eq_of_length_le (by omega)] at e1
    have e2 := (e1.stored (k * 2 + 1) (.string ⟨#[]⟩)).1
    rwa [List.set_eq_of_length_le (by omega)] at e2
  have q8 : (k : Int) ≤ L.length := by omega
  have q9 : ((L.length : Int)).toNat = L.length := rfl
  have q10 : L.length - k = 1 := by omega
  have q11 : ¬ cap = k := by omega
  have q12 : L.length - 1 = k := by omega
  rw [q12]
  generalize hn : L.length = n at *
  go_enter Try.func53, Try.ntmps53
  go_wp2
  go_region_law (refine wp_append_at (.tmp 22) (.tmp 25) 89 rfl (.slice (some ⟨g, 0, none⟩) i cap) (.slice (if cap = i + 1 then some ⟨g, 0, none⟩ else some ⟨g, (i + 1) * 2, none⟩) (n - (i + 1)) (cap - (i + 1))) rfl rfl hrun ?_)
  go_wp2
  all_goals (
    go_ret
    refine ⟨rfl, ?_, ?_⟩
    · first
        | exact hout
        | (rw [show i + 1 = cap from by omega]; exact hout)
    · exact (hu1.trans (Upd.setCell _ _ _ _)).trans (Upd.setCell _ _ _ _))
end
end Go.Proofs.Ytcbainmpikcfjaa
