/- Rings: Insert, Remove, Shift of the reference. -/
import Derived.Test.YthmcdlieglollaaChC6
namespace Go.Proofs.Ythmcdlieglollaa
open Go.RowKit Go.Sort Go.Maps
set_option linter.unusedVariables false
set_option linter.unusedSimpArgs false
set_option linter.unusedSectionVars false
set_option maxRecDepth 20000
attribute [local go_sem] Oper.semAt_some

theorem rput_res {W : World} {Q : Option Addr} {c : Nat} (o : Int) (ms : List Int) (a k : Int) (h : SlI W Q c ms) (hQ : FormG Q c ms) (hn : ms.length ≤ 1000) (hao : a = o → idxI ms a = -1) :
    Calls Try.prog 66 #[.int .i64 o, .slice Q ms.length c, .int .i64 a, .int .i64 k] W fun e w' => (∃ Q' d, e = .returned (.slice Q' (ms.length + 1) d) ∧ SlI w' Q' d (insF ms a k) ∧ (Q' = none → d = 0)) ∧ Ext W w' :=
  (rput_any Q c o ms a k h hQ hn hao).mono fun e w' ⟨⟨v, he, ho⟩, hx⟩ => by
    have hl := insF_len ms a k
    obtain ⟨Q', d, e2, h2, q2⟩ := ho.res elemI (by omega)
    exact ⟨⟨Q', d, by rw [he, e2, hl], h2, q2⟩, hx⟩
theorem built_res {W : World} {Q : Option Addr} {c : Nat} (o : Int) (ms : List Int) (n : Nat) (h : SlI W Q c ms) (hQ : Q = none → c = 0) (hn : ms.length = n) (hn5 : n ≤ 1000) :
    Calls Try.prog 47 #[.int .i64 o, .slice Q n c] W fun e w' => (∃ v, e = .returned v ∧ ResL w' v (builtF o ms)) ∧ Ext W w' := by
  subst hn
  exact (built_any Q c o ms W h hQ (by omega)).mono fun e w' ⟨⟨v, he, ho⟩, hx⟩ => ⟨⟨v, he, ho.res elemL (by rw [built_len]; omega)⟩, hx⟩
set_option maxHeartbeats 4000000 in
theorem rinsert_any (P : Option Addr) (cap : Nat) (l : List Lk) (o : Int) (ms : List Int) (a k : Int) (hlb : l = builtF o ms) (hr : Right (o :: ms)) {w : World} (h : SlL w P cap l) (ha : OkI a) (hk : OkI k) (hn : ms.length ≤ 200) :
    Calls Try.prog 36 #[.slice P l.length cap, .int .i64 a, .int .i64 k] w fun e w' => (∃ v, e = .returned (.tuple #[v, .int .i64 (insE o ms a k)]) ∧ ResL w' v (insL o ms a k)) ∧ Ext w w' := by
  have hV := rvalid_any P cap l w h (by rw [hlb]; exact built_okK hr)
  rw [show validB l = true from by rw [hlb]; exact validB_built hr] at hV
  rcases ins_cases o ms a k with ⟨h1, he, hl⟩ | ⟨h1, h2, he, hl⟩ | ⟨h1, h2, h3, he, hl⟩ | ⟨i, j, h1, h2, h3, h4, h5, h6, he, hl⟩ | ⟨i, h1, h2, h3, h4, h5, he, hl⟩
  · have hKa := fun W => rkey_any a W
    rw [h1] at hKa
    clear h1
    have HE := Lib.hid he
    have HL := Lib.hid hl
    rw [HE.out, HL.out]
    clear he hl hlb
    go_enter Try.func36, Try.ntmps36
    go_wp2_with (first
      | (go_at_call 22; refine hV.mono ?_; rintro e w1 ⟨rfl, hx1⟩; have s1 := h.ext hx1)
      | (go_at_call 51; (with_reducible refine (hKa _).mono ?_); rintro e w2 ⟨rfl, rfl⟩))
    go_ret2
    exact ⟨⟨_, rfl, ResG.nil _ _⟩, hx1⟩
  · have hKa := fun W => rkey_any a W
    rw [h1] at hKa
    clear h1
    have hKk := fun W => rkey_any k W
    rw [h2] at hKk
    clear h2
    have HE := Lib.hid he
    have HL := Lib.hid hl
    rw [HE.out, HL.out]
    clear he hl hlb
    go_enter Try.func36, Try.ntmps36
    go_wp2_with (first
      | (go_at_call 22; refine hV.mono ?_; rintro e w1 ⟨rfl, hx1⟩; have s1 := h.ext hx1)
      | (go_at_call 51; (with_reducible refine (hKa _).mono ?_); rintro e w2 ⟨rfl, rfl⟩)
      | (go_at_call 51; (with_reducible refine (hKk _).mono ?_); rintro e w2 ⟨rfl, rfl⟩))
    go_ret2
    exact ⟨⟨_, rfl, ResG.nil _ _⟩, hx1⟩
  · have hA := fun W hs => at_no P cap l o ms a hlb W hs h3
    have hKa := fun W => rkey_any a W
    rw [h1] at hKa
    clear h1
    have hKk := fun W => rkey_any k W
    rw [h2] at hKk
    clear h2
    have HE := Lib.hid he
    have HL := Lib.hid hl
    rw [HE.out, HL.out]
    clear he hl hlb h3
    go_enter Try.func36, Try.ntmps36
    go_wp2_with (first
      | (go_at_call 22; refine hV.mono ?_; rintro e w1 ⟨rfl, hx1⟩; have s1 := h.ext hx1)
      | (go_at_call 51; (with_reducible refine (hKa _).mono ?_); rintro e w2 ⟨rfl, rfl⟩)
      | (go_at_call 51; (with_reducible refine (hKk _).mono ?_); rintro e w2 ⟨rfl, rfl⟩)
      | (go_at_call 52; (with_reducible refine (hA _ s1).mono ?_); rintro e w3 ⟨rfl, rfl⟩))
    go_ret2
    exact ⟨⟨_, rfl, ResG.nil _ _⟩, hx1⟩
  · have hA := fun W hs => at_yes P cap l o ms a i hlb hr W hs h3 h4
    have hB := fun W hs => at_yes P cap l o ms k j hlb hr W hs h5 h6
    have hKa := fun W => rkey_any a W
    rw [h1] at hKa
    clear h1
    have hKk := fun W => rkey_any k W
    rw [h2] at hKk
    clear h2
    have HE := Lib.hid he
    have HL := Lib.hid hl
    rw [HE.out, HL.out]
    clear he hl hlb h3 h4 h5 h6
    generalize placeF o ms i = p at *
    generalize placeF o ms j = q at *
    go_enter Try.func36, Try.ntmps36
    go_wp2_with (first
      | (go_at_call 22; refine hV.mono ?_; rintro e w1 ⟨rfl, hx1⟩; have s1 := h.ext hx1)
      | (go_at_call 51; (with_reducible refine (hKa _).mono ?_); rintro e w2 ⟨rfl, rfl⟩)
      | (go_at_call 51; (with_reducible refine (hKk _).mono ?_); rintro e w2 ⟨rfl, rfl⟩)
      | (go_at_call 52; (with_reducible refine (hA _ s1).mono ?_); rintro e w3 ⟨rfl, rfl⟩)
      | (go_at_call 52; (with_reducible refine (hB _ s1).mono ?_); rintro e w4 ⟨rfl, rfl⟩))
    go_ret2
    exact ⟨⟨_, rfl, ResG.nil _ _⟩, hx1⟩
  · have hA := fun W hs => at_yes P cap l o ms a i hlb hr W hs h3 h4
    have hB := fun W hs => at_no P cap l o ms k hlb W hs h5
    have hKa := fun W => rkey_any a W
    rw [h1] at hKa
    clear h1
    have hKk := fun W => rkey_any k W
    rw [h2] at hKk
    clear h2
    have hlen : l.length = ms.length + 1 := by rw [hlb]; exact built_len o ms
    obtain ⟨b, off, hP, g3⟩ := own_cell h (by omega)
    rw [show own l = o from by rw [hlb]; exact built_own o ms] at g3
    subst hP
    have c0 : (0 : Int) < l.length := by omega
    have c0n : 0 < l.length := by omega
    have hRM := fun {W} hs => rmembers_form (some ⟨b, off, none⟩) cap l o ms hlb hr (w := W) hs
    have hPt := fun {W Q c} hs hq => rput_res (W := W) (Q := Q) (c := c) o ms a k hs hq (by omega) (no_first hr)
    have hBt := fun {W Q c} hs hq => built_res (W := W) (Q := Q) (c := c) o (insF ms a k) (ms.length + 1) hs hq (insF_len ms a k) (by omega)
    have c5 : (l.length == 500) = false := by
      have : l.length ≠ 500 := by omega
      simpa using this
    have c6 : ((l.length : Int) == 500) = false := by
      have : (l.length : Int) ≠ 500 := by omega
      simpa using this
    have HE := Lib.hid he
    have HL := Lib.hid hl
    rw [HE.out, HL.out]
    clear he hl hlb h3 h4 h5 hlen
    generalize placeF o ms i = p at *
    go_enter Try.func36, Try.ntmps36
    go_wp2_with (first
      | (go_at_call 22; refine hV.mono ?_; rintro e w1 ⟨rfl, hx1⟩; have s1 := h.ext hx1; have g3 := hx1.cell g3)
      | (go_at_call 51; (with_reducible refine (hKa _).mono ?_); rintro e w2 ⟨rfl, rfl⟩)
      | (go_at_call 51; (with_reducible refine (hKk _).mono ?_); rintro e w2 ⟨rfl, rfl⟩)
      | (go_at_call 52; (with_reducible refine (hA _ s1).mono ?_); rintro e w3 ⟨rfl, rfl⟩)
      | (go_at_call 52; (with_reducible refine (hB _ s1).mono ?_); rintro e w4 ⟨rfl, rfl⟩))
    go_region_held3 (fun w' => w'.cell? ⟨b, off + 3, none⟩ = some (.int .i64 o)) (first | go_keep | (refine Ext.cell ?_ g3; (repeat (first | exact Ext.refl _ | assumption | refine Ext.trans ?_ hx8 | refine Ext.trans ?_ hx7 | refine Ext.trans ?_ hx6 | refine Ext.trans ?_ hx5 | refine Ext.drew ?_ | refine Ext.alloc ?_ _ | refine Ext.drewN ?_ _))))
      (first
        | (go_at_call 58; refine (hRM (s1.ext ?_)).mono ?_
           · (repeat (first | exact Ext.refl _ | assumption | refine Ext.trans ?_ hx8 | refine Ext.trans ?_ hx7 | refine Ext.trans ?_ hx6 | refine Ext.trans ?_ hx5 | refine Ext.drew ?_ | refine Ext.alloc ?_ _ | refine Ext.drewN ?_ _))
           rintro e w5 ⟨⟨P5, c5, rfl, t5, q5⟩, hx5⟩)
        | (go_at_call 66; refine (hPt (t5.ext ?_) q5).mono ?_
           · (repeat (first | exact Ext.refl _ | assumption | refine Ext.drew ?_ | refine Ext.alloc ?_ _ | refine Ext.drewN ?_ _))
           rintro e w6 ⟨⟨P6, c6, rfl, t6, q6⟩, hx6⟩)
        | (go_at_call 47; refine (hBt (t6.ext ?_) q6).mono ?_
           · (repeat (first | exact Ext.refl _ | assumption | refine Ext.drew ?_ | refine Ext.alloc ?_ _ | refine Ext.drewN ?_ _))
           rintro e w7 ⟨⟨v7, rfl, hv7⟩, hx7⟩)
        | fail)
    all_goals
      go_wp2
      go_ret2
      refine ⟨⟨_, rfl, hv7⟩, hx1.trans ?_⟩
      (repeat (first | exact Ext.refl _ | assumption | refine Ext.trans ?_ hx8 | refine Ext.trans ?_ hx7 | refine Ext.trans ?_ hx6 | refine Ext.trans ?_ hx5 | refine Ext.drew ?_ | refine Ext.alloc ?_ _ | refine Ext.drewN ?_ _))
set_option maxHeartbeats 4000000 in
theorem rremove_any (P : Option Addr) (cap : Nat) (l : List Lk) (o : Int) (ms : List Int) (k : Int) (hlb : l = builtF o ms) (hr : Right (o :: ms)) {w : World} (h : SlL w P cap l) (hk : OkI k) (hn : ms.length ≤ 200) :
    Calls Try.prog 39 #[.slice P l.length cap, .int .i64 k] w fun e w' => (∃ v, e = .returned (.tuple #[v, .int .i64 (remE o ms k)]) ∧ ResL w' v (remL o ms k)) ∧ Ext w w' := by
  have hV := rvalid_any P cap l w h (by rw [hlb]; exact built_okK hr)
  rw [show validB l = true from by rw [hlb]; exact validB_built hr] at hV
  rcases rem_cases o ms k with ⟨h1, he, hl⟩ | ⟨h1, h2, he, hl⟩ | ⟨h1, h2, he, hl⟩ | ⟨i, h1, h3, h4, h5, he, hl⟩
  · have hKk := fun W => rkey_any k W
    rw [h1] at hKk
    clear h1
    have HE := Lib.hid he
    have HL := Lib.hid hl
    rw [HE.out, HL.out]
    clear he hl hlb
    go_enter Try.func39, Try.ntmps39
    go_wp2_with (first
      | (go_at_call 22; refine hV.mono ?_; rintro e w1 ⟨rfl, hx1⟩; have s1 := h.ext hx1)
      | (go_at_call 51; (with_reducible refine (hKk _).mono ?_); rintro e w2 ⟨rfl, rfl⟩))
    go_ret2
    exact ⟨⟨_, rfl, ResG.nil _ _⟩, hx1⟩
  · have hA := fun W hs => at_no P cap l o ms k hlb W hs h2
    have hKk := fun W => rkey_any k W
    rw [h1] at hKk
    clear h1
    have HE := Lib.hid he
    have HL := Lib.hid hl
    rw [HE.out, HL.out]
    clear he hl hlb h2
    go_enter Try.func39, Try.ntmps39
    go_wp2_with (first
      | (go_at_call 22; refine hV.mono ?_; rintro e w1 ⟨rfl, hx1⟩; have s1 := h.ext hx1)
      | (go_at_call 51; (with_reducible refine (hKk _).mono ?_); rintro e w2 ⟨rfl, rfl⟩)
      | (go_at_call 52; (with_reducible refine (hA _ s1).mono ?_); rintro e w3 ⟨rfl, rfl⟩))
    go_ret2
    exact ⟨⟨_, rfl, ResG.nil _ _⟩, hx1⟩
  · have hA := fun W hs => at_yes P cap l o ms k 0 hlb hr W hs (by omega) h2.symm
    have hKk := fun W => rkey_any k W
    rw [h1] at hKk
    clear h1
    have hlen : l.length = ms.length + 1 := by rw [hlb]; exact built_len o ms
    obtain ⟨b, off, hP, g3⟩ := own_cell h (by omega)
    rw [show own l = o from by rw [hlb]; exact built_own o ms] at g3
    subst hP
    have c0 : (0 : Int) < l.length := by omega
    have c0n : 0 < l.length := by omega
    have e6 : (o == k) = true := by simpa using h2.symm
    have HE := Lib.hid he
    have HL := Lib.hid hl
    rw [HE.out, HL.out]
    clear he hl hlb h2 hlen
    generalize placeF o ms 0 = p at *
    go_enter Try.func39, Try.ntmps39
    go_wp2_with (first
      | (go_at_call 22; refine hV.mono ?_; rintro e w1 ⟨rfl, hx1⟩; have s1 := h.ext hx1; have g3 := hx1.cell g3)
      | (go_at_call 51; (with_reducible refine (hKk _).mono ?_); rintro e w2 ⟨rfl, rfl⟩)
      | (go_at_call 52; (with_reducible refine (hA _ s1).mono ?_); rintro e w3 ⟨rfl, rfl⟩))
    go_ret2
    exact ⟨⟨_, rfl, ResG.nil _ _⟩, hx1⟩
  · have hA := fun W hs => at_yes P cap l o ms k i hlb hr W hs h3 h4
    have hKk := fun W => rkey_any k W
    rw [h1] at hKk
    clear h1
    have hlen : l.length = ms.length + 1 := by rw [hlb]; exact built_len o ms
    obtain ⟨b, off, hP, g3⟩ := own_cell h (by omega)
    rw [show own l = o from by rw [hlb]; exact built_own o ms] at g3
    subst hP
    have c0 : (0 : Int) < l.length := by omega
    have c0n : 0 < l.length := by omega
    have hRM := fun {W} hs => rmembers_form (some ⟨b, off, none⟩) cap l o ms hlb hr (w := W) hs
    have hWo := fun {W Q c} hs => rwithout_form Q c ms k (w := W) hs (by omega)
    have hrl : (remF ms k).length ≤ ms.length := List.length_filter_le _ _
    have hBt := fun {W Q c} hs (hq : FormG Q c (remF ms k)) => built_res (W := W) (Q := Q) (c := c) o (remF ms k) (remF ms k).length hs hq.nil_cap rfl (by omega)
    have e6 : (o == k) = false := by simpa using fun e => h5 e.symm
    have HE := Lib.hid he
    have HL := Lib.hid hl
    rw [HE.out, HL.out]
    clear he hl hlb h3 h4 h5 hlen hrl
    generalize placeF o ms i = p at *
    generalize remF ms k = rm at *
    go_enter Try.func39, Try.ntmps39
    go_wp2_with (first
      | (go_at_call 22; refine hV.mono ?_; rintro e w1 ⟨rfl, hx1⟩; have s1 := h.ext hx1; have g3 := hx1.cell g3)
      | (go_at_call 51; (with_reducible refine (hKk _).mono ?_); rintro e w2 ⟨rfl, rfl⟩)
      | (go_at_call 52; (with_reducible refine (hA _ s1).mono ?_); rintro e w3 ⟨rfl, rfl⟩))
    go_region_held3 (fun w' => w'.cell? ⟨b, off + 3, none⟩ = some (.int .i64 o)) (first | go_keep | (refine Ext.cell ?_ g3; (repeat (first | exact Ext.refl _ | assumption | refine Ext.trans ?_ hx8 | refine Ext.trans ?_ hx7 | refine Ext.trans ?_ hx6 | refine Ext.trans ?_ hx5 | refine Ext.drew ?_ | refine Ext.alloc ?_ _ | refine Ext.drewN ?_ _))))
      (first
        | (go_at_call 58; refine (hRM (s1.ext ?_)).mono ?_
           · (repeat (first | exact Ext.refl _ | assumption | refine Ext.trans ?_ hx8 | refine Ext.trans ?_ hx7 | refine Ext.trans ?_ hx6 | refine Ext.trans ?_ hx5 | refine Ext.drew ?_ | refine Ext.alloc ?_ _ | refine Ext.drewN ?_ _))
           rintro e w5 ⟨⟨P5, c5, rfl, t5, q5⟩, hx5⟩)
        | (go_at_call 69; refine (hWo (t5.ext ?_)).mono ?_
           · (repeat (first | exact Ext.refl _ | assumption | refine Ext.drew ?_ | refine Ext.alloc ?_ _ | refine Ext.drewN ?_ _))
           rintro e w6 ⟨⟨P6, c6, rfl, t6, q6⟩, hx6⟩)
        | (go_at_call 47; refine (hBt (t6.ext ?_) q6).mono ?_
           · (repeat (first | exact Ext.refl _ | assumption | refine Ext.drew ?_ | refine Ext.alloc ?_ _ | refine Ext.drewN ?_ _))
           rintro e w7 ⟨⟨v7, rfl, hv7⟩, hx7⟩)
        | fail)
    all_goals
      go_wp2
      go_ret2
      refine ⟨⟨_, rfl, hv7⟩, hx1.trans ?_⟩
      (repeat (first | exact Ext.refl _ | assumption | refine Ext.trans ?_ hx8 | refine Ext.trans ?_ hx7 | refine Ext.trans ?_ hx6 | refine Ext.trans ?_ hx5 | refine Ext.drew ?_ | refine Ext.alloc ?_ _ | refine Ext.drewN ?_ _))
set_option maxHeartbeats 4000000 in
theorem rshift_any (P : Option Addr) (cap : Nat) (l : List Lk) (o : Int) (ms : List Int) (k a : Int) (hlb : l = builtF o ms) (hr : Right (o :: ms)) {w : World} (h : SlL w P cap l) (hk : OkI k) (ha : OkI a) (hn : ms.length ≤ 200) :
    Calls Try.prog 41 #[.slice P l.length cap, .int .i64 k, .int .i64 a] w fun e w' => (∃ v, e = .returned (.tuple #[v, .int .i64 (shE o ms k a)]) ∧ ResL w' v (shL o ms k a)) ∧ Ext w w' := by
  have hV := rvalid_any P cap l w h (by rw [hlb]; exact built_okK hr)
  rw [show validB l = true from by rw [hlb]; exact validB_built hr] at hV
  rcases sh_cases o ms k a with ⟨h1, he, hl⟩ | ⟨h1, h2, he, hl⟩ | ⟨h1, h2, h3, he, hl⟩ | ⟨i, h1, h2, h3, h4, h5, he, hl⟩ | ⟨j, h1, h2, h3, h4, h5, he, hl⟩ | ⟨i, h1, h2, h3, h4, h5, h6, he, hl⟩ | ⟨i, j, h1, h2, h3, h4, h5, h6, h7, h8, he, hl⟩
  · have hKk := fun W => rkey_any k W
    rw [h1] at hKk
    clear h1
    have HE := Lib.hid he
    have HL := Lib.hid hl
    rw [HE.out, HL.out]
    clear he hl hlb
    go_enter Try.func41, Try.ntmps41
    go_wp2_with (first
      | (go_at_call 22; refine hV.mono ?_; rintro e w1 ⟨rfl, hx1⟩; have s1 := h.ext hx1)
      | (go_at_call 51; (with_reducible refine (hKk _).mono ?_); rintro e w2 ⟨rfl, rfl⟩))
    go_ret2
    exact ⟨⟨_, rfl, ResG.nil _ _⟩, hx1⟩
  · have hKk := fun W => rkey_any k W
    rw [h1] at hKk
    clear h1
    have hKa := fun W => rkey_any a W
    rw [h2] at hKa
    clear h2
    have HE := Lib.hid he
    have HL := Lib.hid hl
    rw [HE.out, HL.out]
    clear he hl hlb
    go_enter Try.func41, Try.ntmps41
    go_wp2_with (first
      | (go_at_call 22; refine hV.mono ?_; rintro e w1 ⟨rfl, hx1⟩; have s1 := h.ext hx1)
      | (go_at_call 51; (with_reducible refine (hKk _).mono ?_); rintro e w2 ⟨rfl, rfl⟩)
      | (go_at_call 51; (with_reducible refine (hKa _).mono ?_); rintro e w2 ⟨rfl, rfl⟩))
    go_ret2
    exact ⟨⟨_, rfl, ResG.nil _ _⟩, hx1⟩
  · have hA := fun W hs => at_no P cap l o ms k hlb W hs h3
    have hKk := fun W => rkey_any k W
    rw [h1] at hKk
    clear h1
    have hKa := fun W => rkey_any a W
    rw [h2] at hKa
    clear h2
    have HE := Lib.hid he
    have HL := Lib.hid hl
    rw [HE.out, HL.out]
    clear he hl hlb h3
    go_enter Try.func41, Try.ntmps41
    go_wp2_with (first
      | (go_at_call 22; refine hV.mono ?_; rintro e w1 ⟨rfl, hx1⟩; have s1 := h.ext hx1)
      | (go_at_call 51; (with_reducible refine (hKk _).mono ?_); rintro e w2 ⟨rfl, rfl⟩)
      | (go_at_call 51; (with_reducible refine (hKa _).mono ?_); rintro e w2 ⟨rfl, rfl⟩)
      | (go_at_call 52; (with_reducible refine (hA _ s1).mono ?_); rintro e w3 ⟨rfl, rfl⟩))
    go_ret2
    exact ⟨⟨_, rfl, ResG.nil _ _⟩, hx1⟩
  · have hA := fun W hs => at_yes P cap l o ms k i hlb hr W hs h3 h4
    have hB := fun W hs => at_no P cap l o ms a hlb W hs h5
    have hKk := fun W => rkey_any k W
    rw [h1] at hKk
    clear h1
    have hKa := fun W => rkey_any a W
    rw [h2] at hKa
    clear h2
    have HE := Lib.hid he
    have HL := Lib.hid hl
    rw [HE.out, HL.out]
    clear he hl hlb h3 h4 h5
    generalize placeF o ms i = p at *
    go_enter Try.func41, Try.ntmps41
    go_wp2_with (first
      | (go_at_call 22; refine hV.mono ?_; rintro e w1 ⟨rfl, hx1⟩; have s1 := h.ext hx1)
      | (go_at_call 51; (with_reducible refine (hKk _).mono ?_); rintro e w2 ⟨rfl, rfl⟩)
      | (go_at_call 51; (with_reducible refine (hKa _).mono ?_); rintro e w2 ⟨rfl, rfl⟩)
      | (go_at_call 52; (with_reducible refine (hA _ s1).mono ?_); rintro e w3 ⟨rfl, rfl⟩)
      | (go_at_call 52; (with_reducible refine (hB _ s1).mono ?_); rintro e w4 ⟨rfl, rfl⟩))
    go_ret2
    exact ⟨⟨_, rfl, ResG.nil _ _⟩, hx1⟩
  · have hA := fun W hs => at_yes P cap l o ms k 0 hlb hr W hs (by omega) h3.symm
    have hB := fun W hs => at_yes P cap l o ms a j hlb hr W hs h4 h5
    have hKk := fun W => rkey_any k W
    rw [h1] at hKk
    clear h1
    have hKa := fun W => rkey_any a W
    rw [h2] at hKa
    clear h2
    have hlen : l.length = ms.length + 1 := by rw [hlb]; exact built_len o ms
    obtain ⟨b, off, hP, g3⟩ := own_cell h (by omega)
    rw [show own l = o from by rw [hlb]; exact built_own o ms] at g3
    subst hP
    have c0 : (0 : Int) < l.length := by omega
    have c0n : 0 < l.length := by omega
    have e6 : (o == k) = true := by simpa using h3.symm
    have HE := Lib.hid he
    have HL := Lib.hid hl
    rw [HE.out, HL.out]
    clear he hl hlb h3 h4 h5 hlen
    generalize placeF o ms 0 = p at *
    generalize placeF o ms j = q at *
    go_enter Try.func41, Try.ntmps41
    go_wp2_with (first
      | (go_at_call 22; refine hV.mono ?_; rintro e w1 ⟨rfl, hx1⟩; have s1 := h.ext hx1; have g3 := hx1.cell g3)
      | (go_at_call 51; (with_reducible refine (hKk _).mono ?_); rintro e w2 ⟨rfl, rfl⟩)
      | (go_at_call 51; (with_reducible refine (hKa _).mono ?_); rintro e w2 ⟨rfl, rfl⟩)
      | (go_at_call 52; (with_reducible refine (hA _ s1).mono ?_); rintro e w3 ⟨rfl, rfl⟩)
      | (go_at_call 52; (with_reducible refine (hB _ s1).mono ?_); rintro e w4 ⟨rfl, rfl⟩))
    go_ret2
    exact ⟨⟨_, rfl, ResG.nil _ _⟩, hx1⟩
  · have hA := fun W hs => at_yes P cap l o ms k i hlb hr W hs h3 h4
    have hB := fun W hs => at_yes P cap l o ms a i hlb hr W hs h3 (h4.trans h6)
    have hKk := fun W => rkey_any k W
    rw [h1] at hKk
    clear h1
    have hKa := fun W => rkey_any a W
    rw [h2] at hKa
    clear h2
    have hlen : l.length = ms.length + 1 := by rw [hlb]; exact built_len o ms
    obtain ⟨b, off, hP, g3⟩ := own_cell h (by omega)
    rw [show own l = o from by rw [hlb]; exact built_own o ms] at g3
    subst hP
    have c0 : (0 : Int) < l.length := by omega
    have c0n : 0 < l.length := by omega
    have e6 : (o == k) = false := by simpa using fun e => h5 e.symm
    have e7 : (k == a) = true := by simpa using h6
    have HN := Lib.hid (show l.length ≤ 1000 from by omega)
    have HLB := Lib.hid hlb
    have HE := Lib.hid he
    have HL := Lib.hid hl
    rw [HE.out, HL.out]
    rw [← HLB.out]
    clear he hl hlb h3 h4 h5 h6 hlen
    generalize placeF o ms i = p at *
    go_enter Try.func41, Try.ntmps41
    go_wp2_with (first
      | (go_at_call 22; refine hV.mono ?_; rintro e w1 ⟨rfl, hx1⟩; have s1 := h.ext hx1; have g3 := hx1.cell g3)
      | (go_at_call 51; (with_reducible refine (hKk _).mono ?_); rintro e w2 ⟨rfl, rfl⟩)
      | (go_at_call 51; (with_reducible refine (hKa _).mono ?_); rintro e w2 ⟨rfl, rfl⟩)
      | (go_at_call 52; (with_reducible refine (hA _ s1).mono ?_); rintro e w3 ⟨rfl, rfl⟩)
      | (go_at_call 52; (with_reducible refine (hB _ s1).mono ?_); rintro e w4 ⟨rfl, rfl⟩)
      | (at_builtin; refine wpList_app_G _ elemL rfl _ _ rfl (base := _) rfl (OwnG.lit0 (Nat.le_refl _)) (m := l) rfl (s1.ext ((Ext.refl _).alloc _)) (fun e => by cases e) ?d2 ?d3 ?d4 ?_; rotate_right 1; intro v7 w7 ho7 hx7; rw [List.nil_append] at ho7))
    case d2 => have := HN.out; simp; omega
    case d3 => have := HN.out; simp; omega
    case d4 => simp
    go_ret2
    exact ⟨⟨_, rfl, ho7.res elemL (by have := HN.out; omega)⟩, hx1.trans (below_ext ((Ext.refl _).alloc _) hx7 (Nat.le_refl _))⟩
  · have hA := fun W hs => at_yes P cap l o ms k i hlb hr W hs h3 h4
    have hB := fun W hs => at_yes P cap l o ms a j hlb hr W hs h6 h7
    have hKk := fun W => rkey_any k W
    rw [h1] at hKk
    clear h1
    have hKa := fun W => rkey_any a W
    rw [h2] at hKa
    clear h2
    have hlen : l.length = ms.length + 1 := by rw [hlb]; exact built_len o ms
    obtain ⟨b, off, hP, g3⟩ := own_cell h (by omega)
    rw [show own l = o from by rw [hlb]; exact built_own o ms] at g3
    subst hP
    have c0 : (0 : Int) < l.length := by omega
    have c0n : 0 < l.length := by omega
    have e6 : (o == k) = false := by simpa using fun e => h5 e.symm
    have e7 : (k == a) = false := by simpa using h8
    have hRM := fun {W} hs => rmembers_form (some ⟨b, off, none⟩) cap l o ms hlb hr (w := W) hs
    have hWo := fun {W Q c} hs => rwithout_form Q c ms k (w := W) hs (by omega)
    have hrl : (remF ms k).length ≤ ms.length := List.length_filter_le _ _
    have hPt := fun {W Q c} hs hq => rput_res (W := W) (Q := Q) (c := c) o (remF ms k) a k hs hq (by omega) (no_first (right_rem k hr))
    have hBt := fun {W Q c} hs hq => built_res (W := W) (Q := Q) (c := c) o (insF (remF ms k) a k) ((remF ms k).length + 1) hs hq (insF_len _ a k) (by omega)
    have HE := Lib.hid he
    have HL := Lib.hid hl
    rw [HE.out, HL.out]
    clear he hl hlb h3 h4 h5 h6 h7 h8 hlen hrl
    generalize placeF o ms i = p at *
    generalize placeF o ms j = q at *
    generalize remF ms k = rm at *
    generalize insF rm a k = im at *
    go_enter Try.func41, Try.ntmps41
    go_wp2_with (first
      | (go_at_call 22; refine hV.mono ?_; rintro e w1 ⟨rfl, hx1⟩; have s1 := h.ext hx1; have g3 := hx1.cell g3)
      | (go_at_call 51; (with_reducible refine (hKk _).mono ?_); rintro e w2 ⟨rfl, rfl⟩)
      | (go_at_call 51; (with_reducible refine (hKa _).mono ?_); rintro e w2 ⟨rfl, rfl⟩)
      | (go_at_call 52; (with_reducible refine (hA _ s1).mono ?_); rintro e w3 ⟨rfl, rfl⟩)
      | (go_at_call 52; (with_reducible refine (hB _ s1).mono ?_); rintro e w4 ⟨rfl, rfl⟩))
    go_region_held3 (fun w' => w'.cell? ⟨b, off + 3, none⟩ = some (.int .i64 o)) (first | go_keep | (refine Ext.cell ?_ g3; (repeat (first | exact Ext.refl _ | assumption | refine Ext.trans ?_ hx8 | refine Ext.trans ?_ hx7 | refine Ext.trans ?_ hx6 | refine Ext.trans ?_ hx5 | refine Ext.drew ?_ | refine Ext.alloc ?_ _ | refine Ext.drewN ?_ _))))
      (first
        | (go_at_call 58; refine (hRM (s1.ext ?_)).mono ?_
           · (repeat (first | exact Ext.refl _ | assumption | refine Ext.trans ?_ hx8 | refine Ext.trans ?_ hx7 | refine Ext.trans ?_ hx6 | refine Ext.trans ?_ hx5 | refine Ext.drew ?_ | refine Ext.alloc ?_ _ | refine Ext.drewN ?_ _))
           rintro e w5 ⟨⟨P5, c5, rfl, t5, q5⟩, hx5⟩)
        | (go_at_call 69; refine (hWo (t5.ext ?_)).mono ?_
           · (repeat (first | exact Ext.refl _ | assumption | refine Ext.drew ?_ | refine Ext.alloc ?_ _ | refine Ext.drewN ?_ _))
           rintro e w6 ⟨⟨P6, c6, rfl, t6, q6⟩, hx6⟩)
        | (go_at_call 66; refine (hPt (t6.ext ?_) q6).mono ?_
           · (repeat (first | exact Ext.refl _ | assumption | refine Ext.drew ?_ | refine Ext.alloc ?_ _ | refine Ext.drewN ?_ _))
           rintro e w7 ⟨⟨P7, c7, rfl, t7, q7⟩, hx7⟩)
        | (go_at_call 47; refine (hBt (t7.ext ?_) q7).mono ?_
           · (repeat (first | exact Ext.refl _ | assumption | refine Ext.drew ?_ | refine Ext.alloc ?_ _ | refine Ext.drewN ?_ _))
           rintro e w8 ⟨⟨v8, rfl, hv8⟩, hx8⟩)
        | fail)
    all_goals
      go_wp2
      go_ret2
      refine ⟨⟨_, rfl, hv8⟩, hx1.trans ?_⟩
      (repeat (first | exact Ext.refl _ | assumption | refine Ext.trans ?_ hx8 | refine Ext.trans ?_ hx7 | refine Ext.trans ?_ hx6 | refine Ext.trans ?_ hx5 | refine Ext.drew ?_ | refine Ext.alloc ?_ _ | refine Ext.drewN ?_ _))
end Go.Proofs.Ythmcdlieglollaa
