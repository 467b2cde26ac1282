/- ArrayFinds: the walk. -/
import Derived.Test.YtiakmcfbkceojaaArT3
namespace Go.Proofs.Ytiakmcfbkceojaa
open Go.RowKit Go.Maps
set_option linter.unusedVariables false
set_option linter.unusedSimpArgs false
set_option maxRecDepth 20000
attribute [local go_sem] Oper.semAt_some

theorem idx_nodup {F : List Int} (hn : F.Nodup) {i : Nat} (h : i < F.length) : idxFrom (nthI F i) 0 F = i := by
  have h1 := (idx_before h).2
  refine h1 fun hm => ?_
  have h2 := hn
  rw [← List.take_append_drop (i + 1) F, nthI_take h, List.nodup_append, List.nodup_append] at h2
  exact h2.1.2.2 _ hm _ (by simp) rfl
theorem findF_at {b : Int} {LL : List (List Int)} (hok : ArOk b LL) {i : Nat} (h : i < LL.flatten.length) : findF b LL (nthI LL.flatten i) = ((i : Int), 0) := by
  rw [findF_yes ⟨validF_iff.2 hok, hok.keys.1 _ (nthI_mem h)⟩, idx_nodup hok.keys.2.1 h, if_neg (by omega)]

set_option maxHeartbeats 4000000 in
theorem arrayFinds_any (b : Int) (P : Option Addr) (cap : Nat) (Q : Nat → Option Addr) (C : Nat → Nat) (LL : List (List Int)) (key n : Int) (w : World) (h : SlA w P cap Q C LL) (hv : ∀ l ∈ LL, ∀ x ∈ l, In64 x) (hkey : In64 key) (hn : In64 n) :
    Calls Try.prog 5 #[.int .i64 b, .slice P LL.length cap, .int .i64 key, .int .i64 n] w fun e w' => e = .returned (.bool true) ∧ Ext w w' := by
  have hL := light_is P cap Q C LL w h
  have hlen := h.len
  cases hl : lightB LL with
  | false =>
    rw [hl] at hL
    go_enter Try.func5, Try.ntmps5
    go_wp2_with (first
      | (go_at_call 16; refine hL.mono ?_; rintro e w1 ⟨rfl, rfl⟩)
      | (go_at_call 9; refine (awake_any _).mono ?_; rintro e w2 ⟨rfl, hx2⟩))
    go_ret
    exact ⟨rfl, hx2⟩
  | true =>
    rw [hl] at hL
    have hF1 := fun k W hW => afind_any b k P cap Q C LL W hW hv
    have hF2 := fun W hW => rfind_any b key P cap Q C LL W hW
    by_cases hok : ArOk b LL
    · have hN1 := fun W hW => anth_yes b n hn P cap Q C LL W hW hok
      have hN2 := fun W hW => rnth_yes b n hn P cap Q C LL W hW hok
      have hA1 := fun W hW => aat_yes b n hn P cap Q C LL W hW hok
      have hA2 := fun W hW => rat_yes b n P cap Q C LL W hW hok
      by_cases hy : 0 ≤ n ∧ n < LL.flatten.length
      · obtain ⟨i, rfl⟩ : ∃ i : Nat, n = i := ⟨n.toNat, by omega⟩
        have hi : i < LL.flatten.length := by omega
        have hS := spotF_spot (LL := LL) (index := i) (fun e => by subst e; simp at hi) (by omega)
        rw [spotF_in hi] at hS
        obtain ⟨hX, _, hY⟩ := hS
        have hYl := (locQ_lt LL i hi).2.1
        have hval := nthI_locQ hi
        have hK := fun W hW => akeys_yes b P cap Q C LL W hW hok hv
        unfold KeysPost at hK
        rw [atF_in hi] at hA1 hA2
        have hF3 := hF1 (nthI LL.flatten i)
        rw [findF_at hok hi] at hF3
        have hle := hok.le
        have hF1 := hF1 key
        generalize findF b LL key = r at *
        generalize nthF LL.flatten (i : Int) = s at *
        obtain ⟨r1, r2⟩ := r
        obtain ⟨s1, s2⟩ := s
        simp only [two, three] at hF1 hF2 hF3 hN1 hN2 hA1 hA2
        have Hval := Lib.hid hval
        clear hval hok hv hY hy
        generalize (locQ LL i).1 = X at *
        generalize (locQ LL i).2 = Y at *
        obtain ⟨bb, off, rfl, hc1⟩ := h.at_ X hX
        obtain ⟨b2, off2, hQ, hc2⟩ := (h.row X hX).at_ Y hYl
        have hrl := h.rowLen X hX
        rw [hQ] at hc1
        have hvl : nthI (nthA LL X) Y = nthI LL.flatten i := Hval.out
        rw [hvl] at hc2
        obtain ⟨Z, hZ⟩ : ∃ Z, nthI LL.flatten i = Z := ⟨_, rfl⟩
        rw [hZ] at hc2 hF3
        have HZ := Lib.hid hZ
        have m1 : (r1 != r1) = false := by simp
        have m2 : (r2 != r2) = false := by simp
        have m3 : (s1 != s1) = false := by simp
        have m4 : (s2 != s2) = false := by simp
        have c1 : (X : Int) < LL.length := by omega
        have c2 : (Y : Int) < (nthA LL X).length := by omega
        have c3 : (i : Int) < LL.flatten.length := by omega
        clear hQ hvl Hval hZ
        generalize LL.flatten = F at *
        go_enter Try.func5, Try.ntmps5
        go_wp2_with (first
          | (go_at_call 16; refine hL.mono ?_; rintro e w1 ⟨rfl, rfl⟩)
          | (go_at_call 22; (with_reducible refine (hF1 _ h).mono ?_); rintro e w2 ⟨rfl, hx2⟩; have h2 := h.ext hx2)
          | (go_at_call 23; refine (hF2 _ (by exact h2)).mono ?_; rintro e w3 ⟨rfl, hx3⟩; have h3 := h2.ext hx3)
          | (go_at_call 24; refine (hN1 _ (by exact h3)).mono ?_; rintro e w4 ⟨rfl, hx4⟩; have h4 := h3.ext hx4)
          | (go_at_call 25; refine (hN2 _ (by exact h4)).mono ?_; rintro e w5 ⟨rfl, hx5⟩; have h5 := h4.ext hx5)
          | (go_at_call 26; refine (hA1 _ (by exact h5)).mono ?_; rintro e w6 ⟨rfl, hx6⟩; have h6 := h5.ext hx6)
          | (go_at_call 27; refine (hA2 _ (by exact h6)).mono ?_; rintro e w7 ⟨rfl, hx7⟩; have h7 := h6.ext hx7)
          | (go_at_call 13; refine (hK _ (by exact h7)).mono ?_; rintro e w8 ⟨v8, rfl, ho8, hx8⟩; have h8 := h7.ext hx8; obtain ⟨P8, c8, rfl, s8⟩ := slI_of_row ho8
             have hx18 := hx2.trans (hx3.trans (hx4.trans (hx5.trans (hx6.trans (hx7.trans hx8)))))
             have e1 := hx18.cell hc1
             have e2 := hx18.cell hc2)
          | (go_at_call 22; (with_reducible refine (hF3 _ (by exact h8)).mono ?_); rintro e w9 ⟨rfl, hx9⟩; have h9 := h8.ext hx9
             replace e1 := hx9.cell e1
             replace e2 := hx9.cell e2
             obtain ⟨b9, o9, hP9, e3⟩ := s8.at_ i hi
             replace e3 := hx9.cell e3
             rw [HZ.out] at e3
             subst hP9))
        have m5 : (Z != Z) = false := by simp
        have m6 : ((i : Int) != i) = false := by simp
        go_quiet (fail)
        go_wp2_with (go_at_call 9; refine (awake_any _).mono ?_; rintro e w10 ⟨rfl, hx10⟩)
        go_ret
        exact ⟨rfl, hx18.trans (hx9.trans (((Ext.refl _).drewN _).trans hx10))⟩
      · have hat := atF_out hy
        rw [hat] at hA1 hA2
        have hF1 := hF1 key
        generalize findF b LL key = r at *
        generalize nthF LL.flatten n = s at *
        obtain ⟨r1, r2⟩ := r
        obtain ⟨s1, s2⟩ := s
        simp only [two, three] at hF1 hF2 hN1 hN2 hA1 hA2
        have m1 : (r1 != r1) = false := by simp
        have m2 : (r2 != r2) = false := by simp
        have m3 : (s1 != s1) = false := by simp
        have m4 : (s2 != s2) = false := by simp
        clear hy hat hok hv
        go_enter Try.func5, Try.ntmps5
        go_wp2_with (first
          | (go_at_call 16; refine hL.mono ?_; rintro e w1 ⟨rfl, rfl⟩)
          | (go_at_call 22; (with_reducible refine (hF1 _ h).mono ?_); rintro e w2 ⟨rfl, hx2⟩; have h2 := h.ext hx2)
          | (go_at_call 23; refine (hF2 _ (by exact h2)).mono ?_; rintro e w3 ⟨rfl, hx3⟩; have h3 := h2.ext hx3)
          | (go_at_call 24; refine (hN1 _ (by exact h3)).mono ?_; rintro e w4 ⟨rfl, hx4⟩; have h4 := h3.ext hx4)
          | (go_at_call 25; refine (hN2 _ (by exact h4)).mono ?_; rintro e w5 ⟨rfl, hx5⟩; have h5 := h4.ext hx5)
          | (go_at_call 26; refine (hA1 _ (by exact h5)).mono ?_; rintro e w6 ⟨rfl, hx6⟩; have h6 := h5.ext hx6)
          | (go_at_call 27; refine (hA2 _ (by exact h6)).mono ?_; rintro e w7 ⟨rfl, hx7⟩; have h7 := h6.ext hx7)
          | (go_at_call 9; refine (awake_any _).mono ?_; rintro e w10 ⟨rfl, hx10⟩))
        go_ret
        exact ⟨rfl, hx2.trans (hx3.trans (hx4.trans (hx5.trans (hx6.trans (hx7.trans hx10)))))⟩
    · have hN1 := fun W hW => anth_no b n P cap Q C LL W hW hv hok
      have hN2 := fun W hW => rnth_no b n P cap Q C LL W hW hok
      have hA1 := fun W hW => aat_no b n P cap Q C LL W hW hv hok
      have hA2 := fun W hW => rat_no b n P cap Q C LL W hW hok
      have hF1 := hF1 key
      generalize findF b LL key = r at *
      obtain ⟨r1, r2⟩ := r
      simp only [two, three] at hF1 hF2 hN1 hN2 hA1 hA2
      have m1 : (r1 != r1) = false := by simp
      have m2 : (r2 != r2) = false := by simp
      clear hok hv
      go_enter Try.func5, Try.ntmps5
      go_wp2_with (first
        | (go_at_call 16; refine hL.mono ?_; rintro e w1 ⟨rfl, rfl⟩)
        | (go_at_call 22; (with_reducible refine (hF1 _ h).mono ?_); rintro e w2 ⟨rfl, hx2⟩; have h2 := h.ext hx2)
        | (go_at_call 23; refine (hF2 _ (by exact h2)).mono ?_; rintro e w3 ⟨rfl, hx3⟩; have h3 := h2.ext hx3)
        | (go_at_call 24; refine (hN1 _ (by exact h3)).mono ?_; rintro e w4 ⟨rfl, hx4⟩; have h4 := h3.ext hx4)
        | (go_at_call 25; refine (hN2 _ (by exact h4)).mono ?_; rintro e w5 ⟨rfl, hx5⟩; have h5 := h4.ext hx5)
        | (go_at_call 26; refine (hA1 _ (by exact h5)).mono ?_; rintro e w6 ⟨rfl, hx6⟩; have h6 := h5.ext hx6)
        | (go_at_call 27; refine (hA2 _ (by exact h6)).mono ?_; rintro e w7 ⟨rfl, hx7⟩; have h7 := h6.ext hx7)
        | (go_at_call 9; refine (awake_any _).mono ?_; rintro e w10 ⟨rfl, hx10⟩))
      go_ret
      exact ⟨rfl, hx2.trans (hx3.trans (hx4.trans (hx5.trans (hx6.trans (hx7.trans hx10)))))⟩
end Go.Proofs.Ytiakmcfbkceojaa
