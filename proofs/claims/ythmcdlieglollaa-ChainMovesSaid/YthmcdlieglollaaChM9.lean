/- Rings: the law of ChainMoves. -/
import Derived.Test.YthmcdlieglollaaChM5
import Derived.Test.YthmcdlieglollaaChC9
namespace Go.Proofs.Ythmcdlieglollaa
open Go.RowKit Go.Sort Go.Maps
set_option linter.unusedVariables false
set_option linter.unusedSimpArgs false
set_option linter.unusedSectionVars false
set_option maxRecDepth 20000
attribute [local go_sem] Oper.semAt_some

set_option maxHeartbeats 4000000 in
theorem changed_no (P Q : Option Addr) (c d : Nat) (l m : List Lk) (o o2 : Int) (ms ms2 : List Int) (hlb : l = builtF o ms) (hr : Right (o :: ms)) (hlb2 : m = builtF o2 ms2) (hr2 : Right (o2 :: ms2)) {w : World} (ha : SlL w P c l) (hb : SlL w Q d m) (hn : ms.length ≤ 200) (hn2 : ms2.length ≤ 200) (hne : o ≠ o2) :
    Calls Try.prog 44 #[.slice P l.length c, .slice Q m.length d] w fun e w' => (∃ v, e = .returned (.tuple #[v, .int .i64 10]) ∧ ResI w' v []) ∧ Ext w w' := by
  have okl := (show ∀ x ∈ l, OkK x from by rw [hlb]; exact built_okK hr)
  have okm := (show ∀ x ∈ m, OkK x from by rw [hlb2]; exact built_okK hr2)
  have hV := fun W hs => valid_any P c l W hs okl
  have hV2 := fun W hs => valid_any Q d m W hs okm
  rw [show validB l = true from by rw [hlb]; exact validB_built hr] at hV
  rw [show validB m = true from by rw [hlb2]; exact validB_built hr2] at hV2
  have hlen : l.length = ms.length + 1 := by rw [hlb]; exact built_len o ms
  have hlen2 : m.length = ms2.length + 1 := by rw [hlb2]; exact built_len o2 ms2
  obtain ⟨b, off, hP, g3⟩ := own_cell ha (by omega)
  rw [show own l = o from by rw [hlb]; exact built_own o ms] at g3
  subst hP
  obtain ⟨b2, off2, hP2, g4⟩ := own_cell hb (by omega)
  rw [show own m = o2 from by rw [hlb2]; exact built_own o2 ms2] at g4
  subst hP2
  have c0 : (0 : Int) < l.length := by omega
  have c0n : 0 < l.length := by omega
  have c1 : (0 : Int) < m.length := by omega
  have c1n : 0 < m.length := by omega
  have oo : (o != o2) = true := by simpa using hne
  clear hlen hlen2 hlb hlb2 hr hr2 hne okl okm
  go_enter Try.func44, Try.ntmps44
  go_wp2_with (first
    | (go_at_call 14; (with_reducible refine (hV _ ha).mono ?_); rintro e w1 ⟨rfl, hx1⟩; have t1 := hb.ext hx1)
    | (go_at_call 14; (with_reducible refine (hV2 _ t1).mono ?_); rintro e w2 ⟨rfl, hx2⟩; have hxw := hx1.trans hx2; have g3 := hxw.cell g3; have g4 := hxw.cell g4))
  go_quiet (fail)
  go_wp2
  go_ret2
  exact ⟨⟨_, rfl, ResG.nil _ _⟩, hxw.drewN _⟩
set_option maxHeartbeats 4000000 in
theorem rchanged_no (P Q : Option Addr) (c d : Nat) (l m : List Lk) (o o2 : Int) (ms ms2 : List Int) (hlb : l = builtF o ms) (hr : Right (o :: ms)) (hlb2 : m = builtF o2 ms2) (hr2 : Right (o2 :: ms2)) {w : World} (ha : SlL w P c l) (hb : SlL w Q d m) (hn : ms.length ≤ 200) (hn2 : ms2.length ≤ 200) (hne : o ≠ o2) :
    Calls Try.prog 45 #[.slice P l.length c, .slice Q m.length d] w fun e w' => (∃ v, e = .returned (.tuple #[v, .int .i64 10]) ∧ ResI w' v []) ∧ Ext w w' := by
  have okl := (show ∀ x ∈ l, OkK x from by rw [hlb]; exact built_okK hr)
  have okm := (show ∀ x ∈ m, OkK x from by rw [hlb2]; exact built_okK hr2)
  have hV := fun W hs => rvalid_any P c l W hs okl
  have hV2 := fun W hs => rvalid_any Q d m W hs okm
  rw [show validB l = true from by rw [hlb]; exact validB_built hr] at hV
  rw [show validB m = true from by rw [hlb2]; exact validB_built hr2] at hV2
  have hlen : l.length = ms.length + 1 := by rw [hlb]; exact built_len o ms
  have hlen2 : m.length = ms2.length + 1 := by rw [hlb2]; exact built_len o2 ms2
  obtain ⟨b, off, hP, g3⟩ := own_cell ha (by omega)
  rw [show own l = o from by rw [hlb]; exact built_own o ms] at g3
  subst hP
  obtain ⟨b2, off2, hP2, g4⟩ := own_cell hb (by omega)
  rw [show own m = o2 from by rw [hlb2]; exact built_own o2 ms2] at g4
  subst hP2
  have c0 : (0 : Int) < l.length := by omega
  have c0n : 0 < l.length := by omega
  have c1 : (0 : Int) < m.length := by omega
  have c1n : 0 < m.length := by omega
  have oo : (o != o2) = true := by simpa using hne
  clear hlen hlen2 hlb hlb2 hr hr2 hne okl okm
  go_enter Try.func45, Try.ntmps45
  go_wp2_with (first
    | (go_at_call 22; (with_reducible refine (hV _ ha).mono ?_); rintro e w1 ⟨rfl, hx1⟩; have t1 := hb.ext hx1)
    | (go_at_call 22; (with_reducible refine (hV2 _ t1).mono ?_); rintro e w2 ⟨rfl, hx2⟩; have hxw := hx1.trans hx2; have g3 := hxw.cell g3; have g4 := hxw.cell g4))
  go_quiet (fail)
  go_wp2
  go_ret2
  exact ⟨⟨_, rfl, ResG.nil _ _⟩, hxw.drewN _⟩
def chgE (o o2 : Int) : Int := if o = o2 then 0 else 10
def chgL (o o2 : Int) (l m : List Lk) : List Int := if o = o2 then sortI (chgK l m) else []
theorem changed_any (P Q : Option Addr) (c d : Nat) (l m : List Lk) (o o2 : Int) (ms ms2 : List Int) (hlb : l = builtF o ms) (hr : Right (o :: ms)) (hlb2 : m = builtF o2 ms2) (hr2 : Right (o2 :: ms2)) {w : World} (ha : SlL w P c l) (hb : SlL w Q d m) (hn : ms.length ≤ 200) (hn2 : ms2.length ≤ 200) :
    Calls Try.prog 44 #[.slice P l.length c, .slice Q m.length d] w fun e w' => (∃ v, e = .returned (.tuple #[v, .int .i64 (chgE o o2)]) ∧ ResI w' v (chgL o o2 l m)) ∧ Ext w w' := by
  by_cases he : o = o2
  · subst he
    rw [show chgE o o = 0 from if_pos rfl, show chgL o o l m = sortI (chgK l m) from if_pos rfl]
    exact changed_yes P Q c d l m o ms ms2 hlb hr hlb2 hr2 ha hb hn hn2
  · rw [show chgE o o2 = 10 from if_neg he, show chgL o o2 l m = [] from if_neg he]
    exact changed_no P Q c d l m o o2 ms ms2 hlb hr hlb2 hr2 ha hb hn hn2 he
theorem rchanged_any (P Q : Option Addr) (c d : Nat) (l m : List Lk) (o o2 : Int) (ms ms2 : List Int) (hlb : l = builtF o ms) (hr : Right (o :: ms)) (hlb2 : m = builtF o2 ms2) (hr2 : Right (o2 :: ms2)) {w : World} (ha : SlL w P c l) (hb : SlL w Q d m) (hn : ms.length ≤ 200) (hn2 : ms2.length ≤ 200) :
    Calls Try.prog 45 #[.slice P l.length c, .slice Q m.length d] w fun e w' => (∃ v, e = .returned (.tuple #[v, .int .i64 (chgE o o2)]) ∧ ResI w' v (chgL o o2 l m)) ∧ Ext w w' := by
  by_cases he : o = o2
  · subst he
    rw [show chgE o o = 0 from if_pos rfl, show chgL o o l m = sortI (chgK l m) from if_pos rfl]
    exact rchanged_yes P Q c d l m o ms ms2 hlb hr hlb2 hr2 ha hb hn hn2
  · rw [show chgE o o2 = 10 from if_neg he, show chgL o o2 l m = [] from if_neg he]
    exact rchanged_no P Q c d l m o o2 ms ms2 hlb hr hlb2 hr2 ha hb hn hn2 he

set_option maxHeartbeats 4000000 in
theorem light_two (b : Nat) (P Q : Option Addr) (n m cap d : Nat) (w : World) (hn : n ≤ 9223372036854775807) (hm : m ≤ 9223372036854775807) (hc : w.cell? ⟨b, 0, none⟩ = some (.slice P n cap)) (hd : w.cell? ⟨b, 1, none⟩ = some (.slice Q m d)) :
    Calls Try.prog 9 #[.slice (some ⟨b, 0, none⟩) 2 2] w fun e w' => e = .returned (.bool (decide (n ≤ 120 ∧ m ≤ 120))) ∧ w' = w := by
  go_enter Try.func9, Try.ntmps9
  go_wp2
  go_loopw [3] (fun i wr => ∃ q : Nat, q ≤ 2 ∧ i = .int .i64 q ∧ (0 < q → n ≤ 120) ∧ (1 < q → m ≤ 120) ∧ wr = w) (fun i _ => 2 - (intOf i).toNat)
  case atStart => exact ⟨0, by omega, rfl, by omega, by omega, rfl⟩
  case round =>
    obtain ⟨q, hk, rfl, hq, hq2, rfl⟩ := hrel
    by_cases hlt : q = 0
    · subst hlt
      by_cases h : n ≤ 120
      · have c1 : ¬ (120 : Int) < n := by omega
        have c2 : decide (120 < n) = false := by simp; omega
        have HH := Lib.hid h
        clear h
        go_wp2
        go_roundw
        case rel => exact ⟨1, by omega, by go_num, fun _ => HH.out, fun h => by omega, by trivial⟩
        case measure => simp [intOf]
      · have c1 : (120 : Int) < n := by omega
        have c2 : decide (120 < n) = true := by simp; omega
        have HH := Lib.hid (show decide (n ≤ 120 ∧ m ≤ 120) = false from decide_eq_false (fun h1 => h h1.1))
        clear h
        go_wp2
        go_ret
        exact ⟨by rw [HH.out]; rfl, by trivial⟩
    · by_cases hlt2 : q = 1
      · subst hlt2
        have HQ := Lib.hid (hq (by omega))
        clear hq hq2 hlt
        by_cases h : m ≤ 120
        · have c1 : ¬ (120 : Int) < m := by omega
          have c2 : decide (120 < m) = false := by simp; omega
          have HH := Lib.hid h
          clear h
          go_wp2
          go_roundw
          case rel => exact ⟨2, by omega, by go_num, fun _ => HQ.out, fun _ => HH.out, by trivial⟩
          case measure => simp [intOf]
        · have c1 : (120 : Int) < m := by omega
          have c2 : decide (120 < m) = true := by simp; omega
          have HH := Lib.hid (show decide (n ≤ 120 ∧ m ≤ 120) = false from decide_eq_false (fun h1 => h h1.2))
          clear h
          go_wp2
          go_ret
          exact ⟨by rw [HH.out]; rfl, by trivial⟩
      · obtain rfl : q = 2 := by omega
        have HH := Lib.hid (show decide (n ≤ 120 ∧ m ≤ 120) = true from decide_eq_true ⟨hq (by omega), hq2 (by omega)⟩)
        clear hq hq2 hlt hlt2
        go_wp2
        go_ret
        exact ⟨by rw [HH.out]; rfl, by trivial⟩

open Go.RowKit Go.Sort Go.Maps
set_option linter.unusedVariables false
set_option linter.unusedSimpArgs false
set_option linter.unusedSectionVars false
set_option maxRecDepth 20000
attribute [local go_sem] Oper.semAt_some

theorem mvE_rem {o : Int} {ms : List Int} {o2 : Int} {ms2 : List Int} {k a : Int} (h : mvE o ms o2 ms2 k a = 0) : remE o ms k = 0 := by
  unfold mvE at h
  unfold remE
  by_cases h1 : keyB k = false
  · rw [if_pos h1] at h; omega
  · rw [if_neg h1] at h ⊢
    by_cases h2 : keyB a = false
    · rw [if_pos h2] at h; omega
    · rw [if_neg h2] at h
      by_cases h3 : idxI (o :: ms) k < 0
      · rw [if_pos h3] at h; omega
      · rw [if_neg h3] at h ⊢
        by_cases h4 : idxI (o2 :: ms2) a < 0
        · rw [if_pos h4] at h; omega
        · rw [if_neg h4] at h
          by_cases h5 : k = o
          · rw [if_pos h5] at h; omega
          · rw [if_neg h5]
theorem chgK_len (a b : List Lk) : (chgK a b).length = chgF a b := by
  unfold chgK
  rw [chg_sum, List.length_append, ks_len, ks_len]
theorem make_right {o : Int} {ms : List Int} (hl : ms.length ≤ 120) (h : makeE o ms = 0) : makeL o ms = builtF o ms ∧ Right (o :: ms) := by
  rcases make_cases o ms with ⟨_, he, hr⟩ | ⟨_, h5, _⟩ | ⟨_, _, he, hr, hrr⟩
  · omega
  · omega
  · exact ⟨hr, hrr⟩
set_option maxHeartbeats 8000000 in
theorem chainMoves_any (o : Int) (P : Option Addr) (cap : Nat) (ms : List Int) (o2 : Int) (P2 : Option Addr) (cap2 : Nat) (ms2 : List Int) (k a : Int) (w : World) (h : SlI w P cap ms) (hP : P = none → cap = 0) (ho : OkI o) (h' : SlI w P2 cap2 ms2) (hP2 : P2 = none → cap2 = 0) (ho2 : OkI o2) (hk : OkI k) (ha : OkI a) :
    Calls Try.prog 8 #[.int .i64 o, .slice P ms.length cap, .int .i64 o2, .slice P2 ms2.length cap2, .int .i64 k, .int .i64 a] w fun e w' => e = .returned (.bool true) ∧ Ext w w' := by
  have hlen := h.len
  have hlen2 := h'.len
  have hxl : Ext w (w.alloc (.cells #[.slice P ms.length cap, .slice P2 ms2.length cap2] 22)) := (Ext.refl w).alloc _
  have hL := light_two w.heap.size P P2 ms.length ms2.length cap cap2 (w.alloc (.cells #[.slice P ms.length cap, .slice P2 ms2.length cap2] 22)) hlen hlen2 ((World.cell?_alloc_mark _ _ _ _ 0).trans rfl) ((World.cell?_alloc_mark _ _ _ _ 1).trans rfl)
  by_cases hl : ms.length ≤ 120 ∧ ms2.length ≤ 120
  · rw [decide_eq_true hl] at hL
    obtain ⟨hl1, hl2⟩ := hl
    have m1 := fun W hW => rmake_any P cap o ms W hW hP (by omega)
    have m2 := fun W hW => rmake_any P2 cap2 o2 ms2 W hW hP2 (by omega)
    have hmk1 := make_cases o ms
    have hmk2 := make_cases o2 ms2
    by_cases hE1 : makeE o ms = 0
    · by_cases hE2 : makeE o2 ms2 = 0
      · obtain ⟨hb1, hrr1⟩ := make_right hl1 hE1
        obtain ⟨hb2, hrr2⟩ := make_right hl2 hE2
        rw [hE1, hb1] at m1
        rw [hE2, hb2] at m2
        clear hE1 hE2 hb1 hb2 hmk1 hmk2
        have c1 := fun {W Q c R d} hs ht => changed_any Q R c d (builtF o ms) (builtF o2 ms2) o o2 ms ms2 rfl hrr1 rfl hrr2 (w := W) hs ht (by omega) (by omega)
        have c2 := fun {W Q c R d} hs ht => rchanged_any Q R c d (builtF o ms) (builtF o2 ms2) o o2 ms ms2 rfl hrr1 rfl hrr2 (w := W) hs ht (by omega) (by omega)
        have v1 := fun {W Q c R d} hs ht => move_any Q R c d (builtF o ms) (builtF o2 ms2) o o2 ms ms2 k a rfl hrr1 rfl hrr2 (w := W) hs ht hk ha (by omega) (by omega)
        have v2 := fun {W Q c R d} hs ht => rmove_any Q R c d (builtF o ms) (builtF o2 ms2) o o2 ms ms2 k a rfl hrr1 rfl hrr2 (w := W) hs ht hk ha (by omega) (by omega)
        by_cases hM : mvE o ms o2 ms2 k a = 0
        · have hR0 := mvE_rem hM
          have hrr3 := right_rem k hrr1
          have hch := (rem_ok hrr1 hR0).2
          have hX : mvX o ms o2 ms2 k a = builtF o (remF ms k) := by unfold mvX; rw [if_pos hM]
          have hle := remF_le ms k
          have ca := fun {W Q c R d} hs ht => changed_any Q R c d (builtF o ms) (builtF o (remF ms k)) o o ms (remF ms k) rfl hrr1 rfl hrr3 (w := W) hs ht (by omega) (by omega)
          have cb := fun {W Q c R d} hs ht => rchanged_any Q R c d (builtF o ms) (builtF o (remF ms k)) o o ms (remF ms k) rfl hrr1 rfl hrr3 (w := W) hs ht (by omega) (by omega)
          have hlK : (chgL o o (builtF o ms) (builtF o (remF ms k))).length ≤ 3 := by
            rw [show chgL o o (builtF o ms) (builtF o (remF ms k)) = sortI (chgK (builtF o ms) (builtF o (remF ms k))) from if_pos rfl, sortI_len]
            exact Nat.le_trans (Nat.le_of_eq (chgK_len _ _)) hch
          have hc3 : ¬ (3 : Int) < (chgL o o (builtF o ms) (builtF o (remF ms k))).length := by omega
          have hpos : (0 : Int) < (builtF o (remF ms k)).length := by rw [built_len]; omega
          rw [hM, hX] at v1 v2
          clear hM hX hR0 hch hle hlK hrr1 hrr2 hrr3
          generalize chgL o o (builtF o ms) (builtF o (remF ms k)) = K2 at *
          generalize chgL o o2 (builtF o ms) (builtF o2 ms2) = K1 at *
          generalize builtF o (remF ms k) = X at *
          generalize mvY o ms o2 ms2 k a = Y at *
          generalize builtF o ms = L at *
          generalize builtF o2 ms2 = M at *
          generalize chgE o o2 = e1 at *
          generalize chgE o o = e2 at *
          go_enter Try.func8, Try.ntmps8
          go_wp2_with (first
            | (go_at_call 9; refine hL.mono ?_; rintro e w1 ⟨rfl, rfl⟩; have h1 := h.ext hxl; have h1b := h'.ext hxl)
            | (go_at_call 11; (with_reducible refine (m1 _ h1).mono ?_); rintro e w3 ⟨⟨v3, rfl, P3, c3, rfl, sL3, _⟩, hx3⟩; have h1b := h1b.ext hx3)
            | (go_at_call 11; (with_reducible refine (m2 _ h1b).mono ?_); rintro e w4 ⟨⟨v4, rfl, P4, c4, rfl, sM4, _⟩, hx4⟩; have sL4 := sL3.ext hx4)
            | (go_at_call 42; have hsm := v1 sL4 sM4; (with_reducible refine hsm.mono ?_); clear hsm; rintro e v1 ⟨⟨z1, u1, rfl, ⟨Q1, d1, rfl, sX, _⟩, ⟨R1, f1, rfl, sY, _⟩⟩, hy1⟩; have L_hy1 := sL4.ext hy1; have M_hy1 := sM4.ext hy1)
            | (go_at_call 43; have hsm := v2 L_hy1 M_hy1; (with_reducible refine hsm.mono ?_); clear hsm; rintro e v2 ⟨⟨z2, u2, rfl, ⟨Q2, d2, rfl, sP, _⟩, ⟨R2, f2, rfl, sQ, _⟩⟩, hy2⟩; have L_hy2 := L_hy1.ext hy2; have M_hy2 := M_hy1.ext hy2; have sX_hy2 := sX.ext hy2; have sY_hy2 := sY.ext hy2)
            | (go_at_call 16; have hsm := samelinks_yes _ _ _ _ _ _ sX_hy2 sP; (with_reducible refine hsm.mono ?_); clear hsm; rintro e v3 ⟨rfl, hy3⟩; have L_hy3 := L_hy2.ext hy3; have M_hy3 := M_hy2.ext hy3; have sX_hy3 := sX_hy2.ext hy3; have sY_hy3 := sY_hy2.ext hy3; have sQ_hy3 := sQ.ext hy3)
            | (go_at_call 16; have hsm := samelinks_yes _ _ _ _ _ _ sY_hy3 sQ_hy3; (with_reducible refine hsm.mono ?_); clear hsm; rintro e v4 ⟨rfl, hy4⟩; have L_hy4 := L_hy3.ext hy4; have M_hy4 := M_hy3.ext hy4; have sX_hy4 := sX_hy3.ext hy4)
            | (go_at_call 44; have hsm := c1 L_hy4 M_hy4; (with_reducible refine hsm.mono ?_); clear hsm; rintro e v5 ⟨⟨z5, rfl, Q5, d5, rfl, sC, _⟩, hy5⟩; have L_hy5 := L_hy4.ext hy5; have M_hy5 := M_hy4.ext hy5; have sX_hy5 := sX_hy4.ext hy5)
            | (go_at_call 45; have hsm := c2 L_hy5 M_hy5; (with_reducible refine hsm.mono ?_); clear hsm; rintro e v6 ⟨⟨z6, rfl, Q6, d6, rfl, sD, _⟩, hy6⟩; have L_hy6 := L_hy5.ext hy6; have sX_hy6 := sX_hy5.ext hy6; have sC_hy6 := sC.ext hy6)
            | (go_at_call 21; have hsm := same_yes _ _ _ _ _ _ sC_hy6 sD; (with_reducible refine hsm.mono ?_); clear hsm; rintro e v7 ⟨rfl, hy7⟩; have L_hy7 := L_hy6.ext hy7; have sX_hy7 := sX_hy6.ext hy7)
            | (go_at_call 44; have hsm := ca L_hy7 sX_hy7; (with_reducible refine hsm.mono ?_); clear hsm; rintro e v8 ⟨⟨z8, rfl, Q8, d8, rfl, sE, _⟩, hy8⟩; have L_hy8 := L_hy7.ext hy8; have sX_hy8 := sX_hy7.ext hy8)
            | (go_at_call 45; have hsm := cb L_hy8 sX_hy8; (with_reducible refine hsm.mono ?_); clear hsm; rintro e v9 ⟨⟨z9, rfl, Q9, d9, rfl, sF, _⟩, hy9⟩; have sE_hy9 := sE.ext hy9)
            | (go_at_call 21; have hsm := same_yes _ _ _ _ _ _ sE_hy9 sF; (with_reducible refine hsm.mono ?_); clear hsm; rintro e v10 ⟨rfl, hy10⟩)
            | (go_at_call 10; refine (awake_any _).mono ?_; rintro e vz ⟨rfl, hyz⟩))
          go_ret
          exact ⟨rfl, hxl.trans (hx3.trans (hx4.trans (hy1.trans (hy2.trans (hy3.trans (hy4.trans (hy5.trans (hy6.trans (hy7.trans (hy8.trans (hy9.trans (hy10.trans (hyz)))))))))))))⟩
        · have hX : mvX o ms o2 ms2 k a = [] := by unfold mvX; rw [if_neg hM]
          have hpos : ¬ (0 : Int) < (mvX o ms o2 ms2 k a).length := by rw [hX]; simp
          clear hM hX hrr1 hrr2
          generalize mvX o ms o2 ms2 k a = X at *
          generalize chgL o o2 (builtF o ms) (builtF o2 ms2) = K1 at *
          generalize mvY o ms o2 ms2 k a = Y at *
          generalize mvE o ms o2 ms2 k a = eM at *
          generalize builtF o ms = L at *
          generalize builtF o2 ms2 = M at *
          generalize chgE o o2 = e1 at *
          go_enter Try.func8, Try.ntmps8
          go_wp2_with (first
            | (go_at_call 9; refine hL.mono ?_; rintro e w1 ⟨rfl, rfl⟩; have h1 := h.ext hxl; have h1b := h'.ext hxl)
            | (go_at_call 11; (with_reducible refine (m1 _ h1).mono ?_); rintro e w3 ⟨⟨v3, rfl, P3, c3, rfl, sL3, _⟩, hx3⟩; have h1b := h1b.ext hx3)
            | (go_at_call 11; (with_reducible refine (m2 _ h1b).mono ?_); rintro e w4 ⟨⟨v4, rfl, P4, c4, rfl, sM4, _⟩, hx4⟩; have sL4 := sL3.ext hx4)
            | (go_at_call 42; have hsm := v1 sL4 sM4; (with_reducible refine hsm.mono ?_); clear hsm; rintro e v1 ⟨⟨z1, u1, rfl, ⟨Q1, d1, rfl, sX, _⟩, ⟨R1, f1, rfl, sY, _⟩⟩, hy1⟩; have L_hy1 := sL4.ext hy1; have M_hy1 := sM4.ext hy1)
            | (go_at_call 43; have hsm := v2 L_hy1 M_hy1; (with_reducible refine hsm.mono ?_); clear hsm; rintro e v2 ⟨⟨z2, u2, rfl, ⟨Q2, d2, rfl, sP, _⟩, ⟨R2, f2, rfl, sQ, _⟩⟩, hy2⟩; have L_hy2 := L_hy1.ext hy2; have M_hy2 := M_hy1.ext hy2; have sX_hy2 := sX.ext hy2; have sY_hy2 := sY.ext hy2)
            | (go_at_call 16; have hsm := samelinks_yes _ _ _ _ _ _ sX_hy2 sP; (with_reducible refine hsm.mono ?_); clear hsm; rintro e v3 ⟨rfl, hy3⟩; have L_hy3 := L_hy2.ext hy3; have M_hy3 := M_hy2.ext hy3; have sX_hy3 := sX_hy2.ext hy3; have sY_hy3 := sY_hy2.ext hy3; have sQ_hy3 := sQ.ext hy3)
            | (go_at_call 16; have hsm := samelinks_yes _ _ _ _ _ _ sY_hy3 sQ_hy3; (with_reducible refine hsm.mono ?_); clear hsm; rintro e v4 ⟨rfl, hy4⟩; have L_hy4 := L_hy3.ext hy4; have M_hy4 := M_hy3.ext hy4; have sX_hy4 := sX_hy3.ext hy4)
            | (go_at_call 44; have hsm := c1 L_hy4 M_hy4; (with_reducible refine hsm.mono ?_); clear hsm; rintro e v5 ⟨⟨z5, rfl, Q5, d5, rfl, sC, _⟩, hy5⟩; have L_hy5 := L_hy4.ext hy5; have M_hy5 := M_hy4.ext hy5; have sX_hy5 := sX_hy4.ext hy5)
            | (go_at_call 45; have hsm := c2 L_hy5 M_hy5; (with_reducible refine hsm.mono ?_); clear hsm; rintro e v6 ⟨⟨z6, rfl, Q6, d6, rfl, sD, _⟩, hy6⟩; have L_hy6 := L_hy5.ext hy6; have sX_hy6 := sX_hy5.ext hy6; have sC_hy6 := sC.ext hy6)
            | (go_at_call 21; have hsm := same_yes _ _ _ _ _ _ sC_hy6 sD; (with_reducible refine hsm.mono ?_); clear hsm; rintro e v7 ⟨rfl, hy7⟩; have L_hy7 := L_hy6.ext hy7; have sX_hy7 := sX_hy6.ext hy7)
            | (go_at_call 10; refine (awake_any _).mono ?_; rintro e vz ⟨rfl, hyz⟩))
          go_ret
          exact ⟨rfl, hxl.trans (hx3.trans (hx4.trans (hy1.trans (hy2.trans (hy3.trans (hy4.trans (hy5.trans (hy6.trans (hy7.trans (hyz))))))))))⟩
      · have hE2' : (makeE o2 ms2 == 0) = false := by simpa using hE2
        clear hE2 hmk1 hmk2
        rw [hE1] at m1
        clear hE1
        generalize makeE o2 ms2 = e2 at *
        generalize makeL o2 ms2 = M at *
        generalize makeL o ms = L at *
        go_enter Try.func8, Try.ntmps8
        go_wp2_with (first
          | (go_at_call 9; refine hL.mono ?_; rintro e w1 ⟨rfl, rfl⟩; have h1 := h.ext hxl; have h1b := h'.ext hxl)
          | (go_at_call 11; (with_reducible refine (m1 _ h1).mono ?_); rintro e w3 ⟨⟨v3, rfl, P3, c3, rfl, sL3, _⟩, hx3⟩; have h1b := h1b.ext hx3)
          | (go_at_call 11; (with_reducible refine (m2 _ h1b).mono ?_); rintro e w4 ⟨⟨v4, rfl, P4, c4, rfl, sM4, _⟩, hx4⟩; have sL4 := sL3.ext hx4)
          | (go_at_call 10; refine (awake_any _).mono ?_; rintro e vz ⟨rfl, hyz⟩))
        go_ret
        exact ⟨rfl, hxl.trans (hx3.trans (hx4.trans (hyz)))⟩
    · have hE1' : (makeE o ms == 0) = false := by simpa using hE1
      clear hE1 hmk1 hmk2
      generalize makeE o2 ms2 = e2 at *
      generalize makeE o ms = e1 at *
      generalize makeL o2 ms2 = M at *
      generalize makeL o ms = L at *
      go_enter Try.func8, Try.ntmps8
      go_wp2_with (first
        | (go_at_call 9; refine hL.mono ?_; rintro e w1 ⟨rfl, rfl⟩; have h1 := h.ext hxl; have h1b := h'.ext hxl)
        | (go_at_call 11; (with_reducible refine (m1 _ h1).mono ?_); rintro e w3 ⟨⟨v3, rfl, P3, c3, rfl, sL3, _⟩, hx3⟩; have h1b := h1b.ext hx3)
        | (go_at_call 11; (with_reducible refine (m2 _ h1b).mono ?_); rintro e w4 ⟨⟨v4, rfl, P4, c4, rfl, sM4, _⟩, hx4⟩; have sL4 := sL3.ext hx4)
        | (go_at_call 10; refine (awake_any _).mono ?_; rintro e vz ⟨rfl, hyz⟩))
      go_ret
      exact ⟨rfl, hxl.trans (hx3.trans (hx4.trans (hyz)))⟩
  · rw [decide_eq_false hl] at hL
    go_enter Try.func8, Try.ntmps8
    go_wp2_with (first
      | (go_at_call 9; refine hL.mono ?_; rintro e w1 ⟨rfl, rfl⟩)
      | (go_at_call 10; refine (awake_any _).mono ?_; rintro e w2 ⟨rfl, hx2⟩))
    go_ret
    exact ⟨rfl, hxl.trans hx2⟩
end Go.Proofs.Ythmcdlieglollaa
