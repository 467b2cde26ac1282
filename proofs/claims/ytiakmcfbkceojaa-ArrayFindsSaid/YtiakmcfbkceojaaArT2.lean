/- Arrays: Find and Nth of both. -/
import Derived.Test.YtiakmcfbkceojaaArT
namespace Go.Proofs.Ytiakmcfbkceojaa
open Go.RowKit Go.Maps
set_option linter.unusedVariables false
set_option linter.unusedSimpArgs false
set_option maxRecDepth 20000
attribute [local go_sem] Oper.semAt_some

/-- what Find tells -/
def findF (b : Int) (LL : List (List Int)) (k : Int) : Int × Int :=
  if validF b LL = true ∧ keyB k = true then (if idxFrom k 0 LL.flatten < 0 then (0, 8) else (idxFrom k 0 LL.flatten, 0)) else (0, 1)
theorem findF_no {b : Int} {LL : List (List Int)} {k : Int} (h : ¬ (validF b LL = true ∧ keyB k = true)) : findF b LL k = (0, 1) := if_neg h
theorem findF_yes {b : Int} {LL : List (List Int)} {k : Int} (h : validF b LL = true ∧ keyB k = true) : findF b LL k = if idxFrom k 0 LL.flatten < 0 then (0, 8) else (idxFrom k 0 LL.flatten, 0) := if_pos h
theorem findF_R {b : Int} {LL : List (List Int)} {k : Int} (h : validF b LL = true ∧ keyB k = true) : FindR LL.flatten k (findF b LL k) := by
  rw [findF_yes h]
  rcases idxFrom_range k LL.flatten 0 with ⟨h1, h2⟩ | ⟨i, h1, h2, h3, h4⟩
  · rw [if_pos (by omega)]; exact .inr ⟨h2, rfl⟩
  · rw [if_neg (by omega), h4]; exact .inl ⟨i, h1, h2, h3, by simp⟩
section
variable (b k : Int) (P : Option Addr) (cap : Nat) (Q : Nat → Option Addr) (C : Nat → Nat) (LL : List (List Int)) (w : World) (h : SlA w P cap Q C LL)
include h
theorem afind_no (hv : ∀ l ∈ LL, ∀ x ∈ l, In64 x) (hno : ¬ (validF b LL = true ∧ keyB k = true)) : Calls Try.prog 22 #[.int .i64 b, .slice P LL.length cap, .int .i64 k] w fun e w' => e = two (0, 1) ∧ Ext w w' := by
  have hV := fun W hW => avalid_any b P cap Q C LL W hW hv
  obtain ⟨W1, hW1, b1, b2, b3, hx1, hz1⟩ := boxes3 w 3 3 25 (.int .i64 k) (.int .i64 0) (.int .i64 0)
  have hres : ∀ W, Ext W1 W → ∃ W', (W.setCell ⟨w.heap.size + 1, 0, none⟩ (.int .i64 0)).setCell ⟨w.heap.size + 1 + 1, 0, none⟩ (.int .i64 1) = W' ∧ W'.cell? ⟨w.heap.size + 1, 0, none⟩ = some (.int .i64 0) ∧ W'.cell? ⟨w.heap.size + 1 + 1, 0, none⟩ = some (.int .i64 1) ∧ Ext w W' := fun W hW => by
    have c2 : Boxed W _ _ _ := hW.heap b2
    have c3 : Boxed W _ _ _ := hW.heap b3
    exact ⟨_, rfl, Boxed.cell ((c2.set _).other (by omega) _), Boxed.cell ((c3.other (by omega) _).set _), ((hx1.trans hW).setCell (by simp) _).setCell (by simp only; omega) _⟩
  have HW1 := Lib.hid hW1
  cases hvl : validF b LL with
  | false =>
    rw [hvl] at hV
    go_enter Try.func22, Try.ntmps22
    go_wp2_with (go_at_call 15; refine (hV _ (by exact h.ext hx1)).mono ?_; rintro e w2 ⟨rfl, hx2⟩; have c2 := hx2.cell b2.cell; have c3 := hx2.cell b3.cell; have f2 := hx2.frozen b2.cell b2.frozen; have f3 := hx2.frozen b3.cell b3.frozen; obtain ⟨W', hW', q2, q3, hx'⟩ := hres _ hx2)
    try rw [hW']
    exact bodyPost_ret (v := .tuple #[.int .i64 0, .int .i64 1]) (by simp [results, Try.results22, go_sem, q2, q3]) rfl ⟨rfl, hx'⟩
  | true =>
    have hkf : keyB k = false := by
      cases hk : keyB k with
      | false => rfl
      | true => exact absurd ⟨hvl, hk⟩ hno
    rw [hvl] at hV
    go_enter Try.func22, Try.ntmps22
    go_wp2_with (first
      | (go_at_call 15; refine (hV _ (by exact h.ext hx1)).mono ?_; rintro e w2 ⟨rfl, hx2⟩; have c1 := hx2.cell b1.cell; have c2 := hx2.cell b2.cell; have c3 := hx2.cell b3.cell; have f2 := hx2.frozen b2.cell b2.frozen; have f3 := hx2.frozen b3.cell b3.frozen; obtain ⟨W', hW', q2, q3, hx'⟩ := hres _ hx2)
      | (go_at_call 39; refine (akey_any _ _).mono ?_; rintro e w3 ⟨rfl, rfl⟩; rw [hkf]))
    try rw [hW']
    exact bodyPost_ret (v := .tuple #[.int .i64 0, .int .i64 1]) (by simp [results, Try.results22, go_sem, q2, q3]) rfl ⟨rfl, hx'⟩
theorem afind_any (hv : ∀ l ∈ LL, ∀ x ∈ l, In64 x) : Calls Try.prog 22 #[.int .i64 b, .slice P LL.length cap, .int .i64 k] w fun e w' => e = two (findF b LL k) ∧ Ext w w' := by
  by_cases hy : validF b LL = true ∧ keyB k = true
  · exact afind_yes b k P cap Q C LL w h (validF_iff.1 hy.1) hy.2 _ (findF_R hy)
  · rw [findF_no hy]; exact afind_no b k P cap Q C LL w h hv hy
theorem rfind_any : Calls Try.prog 23 #[.int .i64 b, .slice P LL.length cap, .int .i64 k] w fun e w' => e = two (findF b LL k) ∧ Ext w w' := by
  have hV := rvalid_any b P cap Q C LL w h
  by_cases hy : validF b LL = true ∧ keyB k = true
  · have hf := findF_yes hy
    have hok := validF_iff.1 hy.1
    rw [hy.1] at hV
    have hky := hy.2
    have hL := fun W hW => rflat_any P cap Q C LL W hW hok.ne hok.le
    clear hok
    generalize LL.flatten = F at *
    have hI := fun P c W hs => index_any P c F k W hs
    generalize findF b LL k = r at *
    generalize idxFrom k 0 F = i at *
    by_cases hi : i < 0
    · rw [if_pos hi] at hf
      subst hf
      clear hy
      go_enter Try.func23, Try.ntmps23
      go_wp2_with (first
        | (go_at_call 19; refine hV.mono ?_; rintro e w1 ⟨rfl, hx1⟩)
        | (go_at_call 43; refine (rkey_any _ _).mono ?_; rintro e w2 ⟨rfl, rfl⟩; rw [hky])
        | (go_at_call 48; refine (hL _ (by exact h.ext hx1)).mono ?_; rintro e w3 ⟨v, rfl, hown, hx3⟩; obtain ⟨P', c', rfl, hs⟩ := slI_of_row hown)
        | (go_at_call 44; refine (hI _ _ _ (by exact hs)).mono ?_; rintro e w4 ⟨rfl, rfl⟩))
      go_ret2
      exact ⟨rfl, hx1.trans hx3⟩
    · rw [if_neg hi] at hf
      subst hf
      clear hy
      go_enter Try.func23, Try.ntmps23
      go_wp2_with (first
        | (go_at_call 19; refine hV.mono ?_; rintro e w1 ⟨rfl, hx1⟩)
        | (go_at_call 43; refine (rkey_any _ _).mono ?_; rintro e w2 ⟨rfl, rfl⟩; rw [hky])
        | (go_at_call 48; refine (hL _ (by exact h.ext hx1)).mono ?_; rintro e w3 ⟨v, rfl, hown, hx3⟩; obtain ⟨P', c', rfl, hs⟩ := slI_of_row hown)
        | (go_at_call 44; refine (hI _ _ _ (by exact hs)).mono ?_; rintro e w4 ⟨rfl, rfl⟩))
      go_ret2
      exact ⟨rfl, hx1.trans hx3⟩
  · rw [findF_no hy]
    cases hvl : validF b LL with
    | false =>
      rw [hvl] at hV
      go_enter Try.func23, Try.ntmps23
      go_wp2_with (first
        | (go_at_call 19; refine hV.mono ?_; rintro e w1 ⟨rfl, hx1⟩))
      go_ret2
      exact ⟨rfl, hx1⟩
    | true =>
      have hkf : keyB k = false := by
        cases hk : keyB k with
        | false => rfl
        | true => exact absurd ⟨hvl, hk⟩ hy
      rw [hvl] at hV
      go_enter Try.func23, Try.ntmps23
      go_wp2_with (first
        | (go_at_call 19; refine hV.mono ?_; rintro e w1 ⟨rfl, hx1⟩)
        | (go_at_call 43; refine (rkey_any _ _).mono ?_; rintro e w2 ⟨rfl, rfl⟩; rw [hkf]))
      go_ret2
      exact ⟨rfl, hx1⟩
end

/-- what Nth tells of a list -/
def nthF (F : List Int) (n : Int) : Int × Int :=
  if n = 0 then (0, 7) else if n < -(F.length : Int) ∨ (F.length : Int) < n then (0, 8) else if n < 0 then (nthI F ((F.length : Int) + n).toNat, 0) else (nthI F (n - 1).toNat, 0)
section
variable (b n : Int) (hn : In64 n) (P : Option Addr) (cap : Nat) (Q : Nat → Option Addr) (C : Nat → Nat) (LL : List (List Int)) (w : World) (h : SlA w P cap Q C LL)
include h
theorem anth_no (hv : ∀ l ∈ LL, ∀ x ∈ l, In64 x) (hok : ¬ ArOk b LL) : Calls Try.prog 24 #[.int .i64 b, .slice P LL.length cap, .int .i64 n] w fun e w' => e = two (0, 1) ∧ Ext w w' := by
  have hV := avalid_any b P cap Q C LL w h hv
  rw [validF_no hok] at hV
  go_enter Try.func24, Try.ntmps24
  go_wp2_with (go_at_call 15; refine hV.mono ?_; rintro e w1 ⟨rfl, hx1⟩)
  go_ret2
  exact ⟨rfl, hx1⟩
theorem rnth_no (hok : ¬ ArOk b LL) : Calls Try.prog 25 #[.int .i64 b, .slice P LL.length cap, .int .i64 n] w fun e w' => e = two (0, 1) ∧ Ext w w' := by
  have hV := rkeys_no b P cap Q C LL w h hok
  go_enter Try.func25, Try.ntmps25
  go_wp2_with (go_at_call 20; refine hV.mono ?_; rintro e w1 ⟨rfl, hx1⟩)
  go_ret2
  exact ⟨rfl, hx1⟩
include hn
theorem anth_yes (hok : ArOk b LL) : Calls Try.prog 24 #[.int .i64 b, .slice P LL.length cap, .int .i64 n] w fun e w' => e = two (nthF LL.flatten n) ∧ Ext w w' := by
  have hV := avalid_any b P cap Q C LL w h hok.in64
  rw [validF_iff.2 hok] at hV
  have hle := hok.le
  have hL : ∀ W, SlA W P cap Q C LL → Calls Try.prog 46 #[.slice P LL.length cap] W fun e w' => ∃ P' cap', e = .returned (.slice P' LL.flatten.length cap') ∧ SlI w' P' cap' LL.flatten ∧ Ext W w' := fun W hW => (listed_any P cap Q C LL W hW hok.ne hok.le).mono (by
    rintro e w' ⟨v, rfl, hown, hx⟩
    obtain ⟨P', cap', rfl, hs⟩ := slI_of_row hown
    exact ⟨P', cap', rfl, hs, hx⟩)
  clear hok
  generalize LL.flatten = F at *
  obtain ⟨hn1, hn2⟩ := hn
  have w0 : IntKind.i64.wrap (-(F.length : Int)) = -(F.length : Int) := IntWalk.i64_in _ ⟨by omega, by omega⟩
  by_cases h0 : n = 0
  · subst h0
    have hr : nthF F 0 = (0, 7) := if_pos rfl
    rw [hr]
    clear hr
    go_enter Try.func24, Try.ntmps24
    go_wp2_with (first
      | (go_at_call 15; refine hV.mono ?_; rintro e w1 ⟨rfl, hx1⟩)
      | (go_at_call 46; refine (hL _ (by exact h.ext hx1)).mono ?_; rintro e w2 ⟨P', c', rfl, hs, hx2⟩))
    go_ret2
    exact ⟨rfl, hx1.trans hx2⟩
  · have c0 : (n == 0) = false := by simpa using h0
    by_cases h1 : n < -(F.length : Int) ∨ (F.length : Int) < n
    · have hr : nthF F n = (0, 8) := by unfold nthF; rw [if_neg h0, if_pos h1]
      rw [hr]
      clear hr h0
      rcases h1 with h1 | h1
      · go_enter Try.func24, Try.ntmps24
        go_wp2_with (first
          | (go_at_call 15; refine hV.mono ?_; rintro e w1 ⟨rfl, hx1⟩)
          | (go_at_call 46; refine (hL _ (by exact h.ext hx1)).mono ?_; rintro e w2 ⟨P', c', rfl, hs, hx2⟩))
        go_ret2
        exact ⟨rfl, hx1.trans hx2⟩
      · have h2 : ¬ n < -(F.length : Int) := by omega
        go_enter Try.func24, Try.ntmps24
        go_wp2_with (first
          | (go_at_call 15; refine hV.mono ?_; rintro e w1 ⟨rfl, hx1⟩)
          | (go_at_call 46; refine (hL _ (by exact h.ext hx1)).mono ?_; rintro e w2 ⟨P', c', rfl, hs, hx2⟩))
        go_ret2
        exact ⟨rfl, hx1.trans hx2⟩
    · have h2 : ¬ n < -(F.length : Int) := fun h => h1 (.inl h)
      have h3 : ¬ (F.length : Int) < n := fun h => h1 (.inr h)
      by_cases h4 : n < 0
      · obtain ⟨i, hi⟩ : ∃ i : Nat, (F.length : Int) + n = i := ⟨((F.length : Int) + n).toNat, by omega⟩
        have hr : nthF F n = (nthI F i, 0) := by unfold nthF; rw [if_neg h0, if_neg h1, if_pos h4, hi]; rfl
        have w1' : IntKind.i64.wrap ((F.length : Int) + n) = (i : Int) := by rw [hi]; exact IntWalk.i64_in _ ⟨by omega, by omega⟩
        rw [hr]
        have hil : i < F.length := by omega
        have hil' : (i : Int) < F.length := by omega
        have Hi := Lib.hid hi
        clear hr h0 h1 hi
        go_enter Try.func24, Try.ntmps24
        go_wp2_with (first
          | (go_at_call 15; refine hV.mono ?_; rintro e w1 ⟨rfl, hx1⟩)
          | (go_at_call 46; refine (hL _ (by exact h.ext hx1)).mono ?_; rintro e w2 ⟨P', c', rfl, hs, hx2⟩; obtain ⟨bb, oo, rfl, hc⟩ := hs.at_ i hil))
        go_ret2
        exact ⟨rfl, hx1.trans hx2⟩
      · obtain ⟨i, hi⟩ : ∃ i : Nat, n = (i : Int) + 1 := ⟨(n - 1).toNat, by omega⟩
        have hr : nthF F n = (nthI F i, 0) := by unfold nthF; rw [if_neg h0, if_neg h1, if_neg h4, hi]; simp
        rw [hr]
        have w1' : IntKind.i64.wrap (n - 1) = (i : Int) := by rw [IntWalk.i64_in _ ⟨by omega, by omega⟩]; omega
        have hil : i < F.length := by omega
        have hil' : (i : Int) < F.length := by omega
        clear hr h0 h1 hi
        go_enter Try.func24, Try.ntmps24
        go_wp2_with (first
          | (go_at_call 15; refine hV.mono ?_; rintro e w1 ⟨rfl, hx1⟩)
          | (go_at_call 46; refine (hL _ (by exact h.ext hx1)).mono ?_; rintro e w2 ⟨P', c', rfl, hs, hx2⟩; obtain ⟨bb, oo, rfl, hc⟩ := hs.at_ i hil))
        go_ret2
        exact ⟨rfl, hx1.trans hx2⟩
end
end Go.Proofs.Ytiakmcfbkceojaa
