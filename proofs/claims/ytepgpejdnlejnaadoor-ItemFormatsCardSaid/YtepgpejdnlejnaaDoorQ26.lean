/- ItZM (merged by group.py) -/
import Derived.Test.YtepgpejdnlejnaaDoorQ23
import Derived.Test.YtepgpejdnlejnaaDoorQ25
import Derived.Test.YtepgpejdnlejnaaDoorQ07
import Derived.Test.YtepgpejdnlejnaaDoorQ08
namespace Go.Proofs.YtepgpejdnlejnaaDoor
section
open Go.RowKit
set_option linter.unusedVariables false
set_option linter.unusedSimpArgs false
set_option linter.unusedSectionVars false
set_option maxRecDepth 100000
attribute [local go_sem] Oper.semAt_some

theorem fmtL_short {l : List It} (h : itemsB l = true) : (fmtL l).length ≤ 20000 := by
  obtain ⟨h8, hall⟩ := item_all h
  have e : fmtL l = fmtK l l.length := by
    unfold fmtL fmtK
    rw [if_pos h, List.take_length]
  rw [e]
  have := fmtK_le hall l.length (Nat.le_refl _)
  omega
set_option maxHeartbeats 8000000 in
theorem formats_law (P0 : Option Addr) (c0 : Nat) (l : List It) (s : ByteArray) (w : World) (aw : ∀ W, Ext w W → Calls Tryd.prog 11 #[] W fun e w' => e = .returned (.bool true) ∧ Ext W w')
    (s0 : SlT w P0 c0 l) (hL : LibW w) :
    Calls Tryd.prog 8 #[.slice P0 l.length c0, .string s] w fun e w' => e = .returned (.bool true) ∧ Ext w w' := by
  have hG := fun W (hx : Ext w W) => litems_any P0 c0 l W (s0.ext hx)
  have hF := fun W (hx : Ext w W) => format_any P0 c0 l W (s0.ext hx) (hL.ext hx).tab
  have hRF := fun W (hx : Ext w W) => rformat_any P0 c0 l W (s0.ext hx)
  have hV := fun W (hx : Ext w W) => ritems_any P0 c0 l W (s0.ext hx)
  have hPb : itemsB l = true → ∀ W (hx : Ext w W), Calls Tryd.prog 52 #[.string (mkB (fmtL l))] W fun e w' => (∃ P c, e = .returned (.tuple #[.slice P l.length c, .int .i64 0]) ∧ SlT w' P c l) ∧ Ext W w' := by
    intro hb W hx
    have hs := fmtL_short hb
    refine (parseitems_any (mkB (fmtL l)) (by rw [mkB_size]; omega) W (hL.ext hx)).mono ?_
    rintro e w' ⟨hxx, P, c, l', y, rfl, hsl, hp⟩
    rw [mkB_toList, fmtL_P, parsePI_fmt itemsP_ok (by rw [itemsP_map]; exact hb) (by rw [← fmtL_P]; exact hs)] at hp
    injection hp with h1 h2
    obtain rfl := toI_inj h1
    subst h2
    exact ⟨⟨P, c, rfl, hsl⟩, hxx⟩
  by_cases h20 : 2000 < s.size
  · have c20 : (2000 : Int) < s.size := by omega
    clear hF hRF hV hPb
    go_enter Tryd.func8, Tryd.ntmps8
    go_wp2_with (fail)
    go_at_call 9
    refine (hG _ (Ext.refl _)).mono ?_
    rintro e w1 ⟨⟨b2, rfl⟩, rfl⟩
    cases b2
    all_goals (
      go_wp2_with (go_at_call 11; refine (aw _ (Ext.refl _)).mono ?_; rintro e w2 ⟨rfl, hx2⟩)
      go_ret
      exact ⟨rfl, hx2⟩)
  · have c20 : ¬ (2000 : Int) < s.size := by omega
    have hH := fun W => hash_any s W (by omega)
    have hRH := fun W => rhash_any s W (by omega)
    have hP : ∀ W, Ext w W → Calls Tryd.prog 52 #[.string s] W fun e w' => ∃ P c l y, (e = .returned (.tuple #[.slice P l.length c, .int .i64 y]) ∧ SlT w' P c l ∧ parsePI itemsP s.data.toList = (l.map toI, y)) ∧ Ext W w' := fun W hx => (parseitems_any s (by omega) W (hL.ext hx)).mono fun e w' ⟨h1, P, c, l, y, h2⟩ => ⟨P, c, l, y, h2, h1⟩
    have hRP : ∀ W, Calls Tryd.prog 53 #[.string s] W fun e w' => ∃ P c l y, (e = .returned (.tuple #[.slice P l.length c, .int .i64 y]) ∧ SlT w' P c l ∧ parseRI itemsP s.data.toList = (l.map toI, y)) ∧ Ext W w' := fun W => (rparseitems_any s W (by omega)).mono fun e w' ⟨h1, P, c, l, y, h2⟩ => ⟨P, c, l, y, h2, h1⟩
    generalize mkB (fmtL l) = X at *
    have hXX : (X.toList != X.toList) = false := by simp
    go_enter Tryd.func8, Tryd.ntmps8
    go_wp2_with (fail)
    go_at_call 9
    refine (hG _ (Ext.refl _)).mono ?_
    rintro e w1 ⟨⟨b2, rfl⟩, rfl⟩
    cases b2
    · go_wp2_with (go_at_call 11; refine (aw _ (Ext.refl _)).mono ?_; rintro e w2 ⟨rfl, hx2⟩)
      go_ret
      exact ⟨rfl, hx2⟩
    · go_wp2_with (first
        | (go_at_call 48; refine (hF _ (Ext.refl _)).mono ?_; rintro e w2 ⟨rfl, hx2⟩)
        | (go_at_call 49; refine (hRF _ hx2).mono ?_; rintro e w3 ⟨rfl, hx3⟩)
        | (go_at_call 50; refine (hH _).mono ?_; rintro e w4 ⟨rfl, rfl⟩)
        | (go_at_call 51; refine (hRH _).mono ?_; rintro e w5 ⟨rfl, rfl⟩))
      have hx23 := hx2.trans hx3
      have hVV := hV _ hx23
      cases hb : itemsB l with
      | false =>
        rw [hb] at hVV
        refine hVV.mono ?_
        rintro e w5 ⟨rfl, hx5⟩
        have hx25 := hx23.trans hx5
        dsimp only
        go_wp2_with (first
          | (go_at_call 52; with_reducible refine Calls.mono (hP _ hx25) ?_; rintro e w8 ⟨P8, c8, l8, y8, ⟨rfl, hs8, hp8⟩, hx8⟩)
          | (go_at_call 53; with_reducible refine Calls.mono (hRP _) ?_; rintro e w9 ⟨P9, c9, l9, y9, ⟨rfl, hs9, hp9⟩, hx9⟩; have hq := hp8.symm.trans ((parseI_same itemsP_ok _).trans hp9); injection hq with hq1 hq2; obtain rfl := toI_inj hq1; subst hq2)
          | (go_at_call 33; with_reducible refine (sameitems_yes P8 P9 c8 c9 l8 _ (hs8.ext hx9) hs9).mono ?_; rintro e w10 ⟨rfl, hx10⟩)
          | (go_at_call 11; with_reducible refine (aw _ (hx25.trans (hx8.trans (hx9.trans hx10)))).mono ?_; rintro e w11 ⟨rfl, hx11⟩))
        go_ret
        exact ⟨rfl, hx25.trans (hx8.trans (hx9.trans (hx10.trans hx11)))⟩
      | true =>
        rw [hb] at hVV
        have hPX := hPb hb
        refine hVV.mono ?_
        rintro e w5 ⟨rfl, hx5⟩
        have hx25 := hx23.trans hx5
        dsimp only
        go_wp2_with (first
          | (go_at_call 52; with_reducible refine (hPX _ hx25).mono ?_; rintro e w6 ⟨⟨P6, c6, rfl, hs6⟩, hx6⟩)
          | (go_at_call 33; with_reducible refine (sameitems_yes P6 P0 c6 c0 l _ hs6 (s0.ext (hx25.trans hx6))).mono ?_; rintro e w7 ⟨rfl, hx7⟩; have hx27 := hx25.trans (hx6.trans hx7))
          | (go_at_call 52; with_reducible refine (hP _ hx27).mono ?_; rintro e w8 ⟨P8, c8, l8, y8, ⟨rfl, hs8, hp8⟩, hx8⟩)
          | (go_at_call 53; with_reducible refine Calls.mono (hRP _) ?_; rintro e w9 ⟨P9, c9, l9, y9, ⟨rfl, hs9, hp9⟩, hx9⟩; have hq := hp8.symm.trans ((parseI_same itemsP_ok _).trans hp9); injection hq with hq1 hq2; obtain rfl := toI_inj hq1; subst hq2)
          | (go_at_call 33; with_reducible refine (sameitems_yes P8 P9 c8 c9 l8 _ (hs8.ext hx9) hs9).mono ?_; rintro e w10 ⟨rfl, hx10⟩)
          | (go_at_call 11; with_reducible refine (aw _ (hx27.trans (hx8.trans (hx9.trans hx10)))).mono ?_; rintro e w11 ⟨rfl, hx11⟩))
        go_ret
        exact ⟨rfl, hx27.trans (hx8.trans (hx9.trans (hx10.trans hx11)))⟩
end
end Go.Proofs.YtepgpejdnlejnaaDoor
