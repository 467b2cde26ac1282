/- Rings: Move of the program and of the reference. -/
import Derived.Test.YthmcdlieglollaaChC9
namespace Go.Proofs.Ythmcdlieglollaa
open Go.RowKit Go.Sort Go.Maps
set_option linter.unusedVariables false
set_option linter.unusedSimpArgs false
set_option linter.unusedSectionVars false
set_option maxRecDepth 20000
attribute [local go_sem] Oper.semAt_some

def mvE (o : Int) (ms : List Int) (o2 : Int) (ms2 : List Int) (k a : Int) : Int :=
  if keyB k = false then 1 else if keyB a = false then 1 else if idxI (o :: ms) k < 0 then 5 else if idxI (o2 :: ms2) a < 0 then 5 else if k = o then 14 else if 0 ≤ idxI (o2 :: ms2) k then 6 else if o = o2 then 10 else 0
def mvX (o : Int) (ms : List Int) (o2 : Int) (ms2 : List Int) (k a : Int) : List Lk := if mvE o ms o2 ms2 k a = 0 then builtF o (remF ms k) else []
def mvY (o : Int) (ms : List Int) (o2 : Int) (ms2 : List Int) (k a : Int) : List Lk := if mvE o ms o2 ms2 k a = 0 then builtF o2 (insF ms2 a k) else []
def MvIs (o : Int) (ms : List Int) (o2 : Int) (ms2 : List Int) (k a : Int) (E : Int) (X Y : List Lk) : Prop := mvE o ms o2 ms2 k a = E ∧ mvX o ms o2 ms2 k a = X ∧ mvY o ms o2 ms2 k a = Y
theorem MvIs.err {o : Int} {ms : List Int} {o2 : Int} {ms2 : List Int} {k a E : Int} (h : mvE o ms o2 ms2 k a = E) (hE : E ≠ 0) : MvIs o ms o2 ms2 k a E [] [] :=
  ⟨h, by unfold mvX; rw [h, if_neg hE], by unfold mvY; rw [h, if_neg hE]⟩
theorem mv_cases (o : Int) (ms : List Int) (o2 : Int) (ms2 : List Int) (k a : Int) :
    (keyB k = false ∧ MvIs o ms o2 ms2 k a 1 [] []) ∨ (keyB k = true ∧ keyB a = false ∧ MvIs o ms o2 ms2 k a 1 [] []) ∨
    (keyB k = true ∧ keyB a = true ∧ idxI (o :: ms) k < 0 ∧ MvIs o ms o2 ms2 k a 5 [] []) ∨
    (∃ i : Nat, keyB k = true ∧ keyB a = true ∧ i < ms.length + 1 ∧ nthI (o :: ms) i = k ∧ idxI (o2 :: ms2) a < 0 ∧ MvIs o ms o2 ms2 k a 5 [] []) ∨
    (∃ j : Nat, keyB k = true ∧ keyB a = true ∧ k = o ∧ j < ms2.length + 1 ∧ nthI (o2 :: ms2) j = a ∧ MvIs o ms o2 ms2 k a 14 [] []) ∨
    (∃ i j q : Nat, keyB k = true ∧ keyB a = true ∧ i < ms.length + 1 ∧ nthI (o :: ms) i = k ∧ k ≠ o ∧ j < ms2.length + 1 ∧ nthI (o2 :: ms2) j = a ∧ q < ms2.length + 1 ∧ nthI (o2 :: ms2) q = k ∧ MvIs o ms o2 ms2 k a 6 [] []) ∨
    (∃ i j : Nat, keyB k = true ∧ keyB a = true ∧ i < ms.length + 1 ∧ nthI (o :: ms) i = k ∧ k ≠ o ∧ j < ms2.length + 1 ∧ nthI (o2 :: ms2) j = a ∧ idxI (o2 :: ms2) k < 0 ∧ o = o2 ∧ MvIs o ms o2 ms2 k a 10 [] []) ∨
    (∃ i j : Nat, keyB k = true ∧ keyB a = true ∧ i < ms.length + 1 ∧ nthI (o :: ms) i = k ∧ k ≠ o ∧ j < ms2.length + 1 ∧ nthI (o2 :: ms2) j = a ∧ idxI (o2 :: ms2) k < 0 ∧ o ≠ o2 ∧ MvIs o ms o2 ms2 k a 0 (builtF o (remF ms k)) (builtF o2 (insF ms2 a k))) := by
  cases h1 : keyB k with
  | false => exact .inl ⟨rfl, .err (by simp [mvE, h1]) (by omega)⟩
  | true =>
    cases h2 : keyB a with
    | false => exact .inr (.inl ⟨rfl, rfl, .err (by simp [mvE, h1, h2]) (by omega)⟩)
    | true =>
      rcases in_round (o := o) (ms := ms) k with h3 | ⟨i, h3, h4, h5⟩
      · exact .inr (.inr (.inl ⟨rfl, rfl, h3, .err (by simp [mvE, h1, h2, h3]) (by omega)⟩))
      · rcases in_round (o := o2) (ms := ms2) a with h6 | ⟨j, h6, h7, h8⟩
        · exact .inr (.inr (.inr (.inl ⟨i, rfl, rfl, h3, h4, h6, .err (by unfold mvE; rw [h1, h2, h5, if_neg (by simp), if_neg (by simp), if_neg (nat_not_neg i), if_pos h6]) (by omega)⟩)))
        · by_cases h9 : k = o
          · exact .inr (.inr (.inr (.inr (.inl ⟨j, rfl, rfl, h9, h6, h7, .err (by unfold mvE; rw [h1, h2, h5, h8, if_neg (by simp), if_neg (by simp), if_neg (nat_not_neg i), if_neg (nat_not_neg j), if_pos h9]) (by omega)⟩))))
          · rcases in_round (o := o2) (ms := ms2) k with h10 | ⟨q, h10, h11, h12⟩
            · by_cases h13 : o = o2
              · exact .inr (.inr (.inr (.inr (.inr (.inr (.inl ⟨i, j, rfl, rfl, h3, h4, h9, h6, h7, h10, h13, .err (by unfold mvE; rw [h1, h2, h5, h8, if_neg (by simp), if_neg (by simp), if_neg (nat_not_neg i), if_neg (nat_not_neg j), if_neg h9, if_neg (by omega), if_pos h13]) (by omega)⟩))))))
              · have e : mvE o ms o2 ms2 k a = 0 := by unfold mvE; rw [h1, h2, h5, h8, if_neg (by simp), if_neg (by simp), if_neg (nat_not_neg i), if_neg (nat_not_neg j), if_neg h9, if_neg (by omega), if_neg h13]
                exact .inr (.inr (.inr (.inr (.inr (.inr (.inr ⟨i, j, rfl, rfl, h3, h4, h9, h6, h7, h10, h13, e, by unfold mvX; rw [if_pos e], by unfold mvY; rw [if_pos e]⟩))))))
            · exact .inr (.inr (.inr (.inr (.inr (.inl ⟨i, j, q, rfl, rfl, h3, h4, h9, h6, h7, h10, h11, .err (by unfold mvE; rw [h1, h2, h5, h8, h12, if_neg (by simp), if_neg (by simp), if_neg (nat_not_neg i), if_neg (nat_not_neg j), if_neg h9, if_pos (by omega)]) (by omega)⟩)))))
set_option maxHeartbeats 4000000 in
theorem move_any (P P2 : Option Addr) (cap cap2 : Nat) (l l2 : List Lk) (o o2 : Int) (ms ms2 : List Int) (k a : Int) (hlb : l = builtF o ms) (hr : Right (o :: ms)) (hlb2 : l2 = builtF o2 ms2) (hr2 : Right (o2 :: ms2)) {w : World} (h : SlL w P cap l) (h2' : SlL w P2 cap2 l2) (hk : OkI k) (ha : OkI a) (hn : ms.length ≤ 200) (hn2 : ms2.length ≤ 200) :
    Calls Try.prog 42 #[.slice P l.length cap, .slice P2 l2.length cap2, .int .i64 k, .int .i64 a] w fun e w' => (∃ v u, e = .returned (.tuple #[v, u, .int .i64 (mvE o ms o2 ms2 k a)]) ∧ ResL w' v (mvX o ms o2 ms2 k a) ∧ ResL w' u (mvY o ms o2 ms2 k a)) ∧ Ext w w' := by
  have hV := fun W hs => valid_any P cap l W hs (by rw [hlb]; exact built_okK hr)
  have hV2 := fun W hs => valid_any P2 cap2 l2 W hs (by rw [hlb2]; exact built_okK hr2)
  rw [show validB l = true from by rw [hlb]; exact validB_built hr] at hV
  rw [show validB l2 = true from by rw [hlb2]; exact validB_built hr2] at hV2
  rcases mv_cases o ms o2 ms2 k a with ⟨h1, hM⟩ | ⟨h1, h2, hM⟩ | ⟨h1, h2, h3, hM⟩ | ⟨i, h1, h2, h3, h4, h5, hM⟩ | ⟨j, h1, h2, h3, h4, h5, hM⟩ | ⟨i, j, q, h1, h2, h3, h4, h5, h6, h7, h8, h9, hM⟩ | ⟨i, j, h1, h2, h3, h4, h5, h6, h7, h8, h9, hM⟩ | ⟨i, j, h1, h2, h3, h4, h5, h6, h7, h8, h9, hM⟩
  · have hKk := fun W => key_any k W
    rw [h1] at hKk
    clear h1
    have HM := Lib.hid hM
    rw [HM.out.1, HM.out.2.1, HM.out.2.2]
    clear hM hlb hlb2
    go_enter Try.func42, Try.ntmps42
    go_wp2_with (first
      | (go_at_call 14; (with_reducible refine (hV _ h).mono ?_); rintro e w1 ⟨rfl, hx1⟩; have s1 := h.ext hx1; have t1 := h2'.ext hx1)
      | (go_at_call 14; (with_reducible refine (hV2 _ t1).mono ?_); rintro e w2 ⟨rfl, hx2⟩; have s2 := s1.ext hx2; have t2 := t1.ext hx2)
      | (go_at_call 48; (with_reducible refine (hKk _).mono ?_); rintro e w3 ⟨rfl, rfl⟩))
    go_ret3
    exact ⟨⟨_, _, rfl, ResG.nil _ _, ResG.nil _ _⟩, hx1.trans (hx2)⟩
  · have hKk := fun W => key_any k W
    rw [h1] at hKk
    clear h1
    have hKa := fun W => key_any a W
    rw [h2] at hKa
    clear h2
    have HM := Lib.hid hM
    rw [HM.out.1, HM.out.2.1, HM.out.2.2]
    clear hM hlb hlb2
    go_enter Try.func42, Try.ntmps42
    go_wp2_with (first
      | (go_at_call 14; (with_reducible refine (hV _ h).mono ?_); rintro e w1 ⟨rfl, hx1⟩; have s1 := h.ext hx1; have t1 := h2'.ext hx1)
      | (go_at_call 14; (with_reducible refine (hV2 _ t1).mono ?_); rintro e w2 ⟨rfl, hx2⟩; have s2 := s1.ext hx2; have t2 := t1.ext hx2)
      | (go_at_call 48; (with_reducible refine (hKk _).mono ?_); rintro e w3 ⟨rfl, rfl⟩)
      | (go_at_call 48; (with_reducible refine (hKa _).mono ?_); rintro e w3 ⟨rfl, rfl⟩))
    go_ret3
    exact ⟨⟨_, _, rfl, ResG.nil _ _, ResG.nil _ _⟩, hx1.trans (hx2)⟩
  · have hA := fun {W} hs => asked_no P cap l o ms k hlb hr (w := W) hs hk h3
    have hKk := fun W => key_any k W
    rw [h1] at hKk
    clear h1
    have hKa := fun W => key_any a W
    rw [h2] at hKa
    clear h2
    have HM := Lib.hid hM
    rw [HM.out.1, HM.out.2.1, HM.out.2.2]
    rcases in_round (o := o2) (ms := ms2) a with h6 | ⟨j, h6, h7, _⟩
    · have hF := fun W hs => find_built P2 cap2 l2 o2 ms2 a hlb2 hr2 W hs ha h6
      clear hM hlb hlb2 h3 h6
      go_enter Try.func42, Try.ntmps42
      go_wp2_with (first
        | (go_at_call 14; (with_reducible refine (hV _ h).mono ?_); rintro e w1 ⟨rfl, hx1⟩; have s1 := h.ext hx1; have t1 := h2'.ext hx1)
        | (go_at_call 14; (with_reducible refine (hV2 _ t1).mono ?_); rintro e w2 ⟨rfl, hx2⟩; have s2 := s1.ext hx2; have t2 := t1.ext hx2)
        | (go_at_call 48; (with_reducible refine (hKk _).mono ?_); rintro e w3 ⟨rfl, rfl⟩)
        | (go_at_call 48; (with_reducible refine (hKa _).mono ?_); rintro e w3 ⟨rfl, rfl⟩)
        | (go_at_call 67; refine (hA s2).mono ?_; rintro e w4 ⟨rfl, hx4⟩; have s4 := s2.ext hx4; have t4 := t2.ext hx4)
        | (go_at_call 49; (with_reducible refine (hF _ t4).mono ?_); rintro e w5 ⟨⟨z, rfl⟩, hx5⟩; have s5 := s4.ext hx5; have t5 := t4.ext hx5))
      go_ret3
      exact ⟨⟨_, _, rfl, ResG.nil _ _, ResG.nil _ _⟩, hx1.trans (hx2.trans (hx4.trans (hx5)))⟩
    · have hF := fun W hs => find_place P2 cap2 l2 o2 ms2 a j hlb2 hr2 W hs ha h6 h7
      clear hM hlb hlb2 h3 h6 h7
      go_enter Try.func42, Try.ntmps42
      go_wp2_with (first
        | (go_at_call 14; (with_reducible refine (hV _ h).mono ?_); rintro e w1 ⟨rfl, hx1⟩; have s1 := h.ext hx1; have t1 := h2'.ext hx1)
        | (go_at_call 14; (with_reducible refine (hV2 _ t1).mono ?_); rintro e w2 ⟨rfl, hx2⟩; have s2 := s1.ext hx2; have t2 := t1.ext hx2)
        | (go_at_call 48; (with_reducible refine (hKk _).mono ?_); rintro e w3 ⟨rfl, rfl⟩)
        | (go_at_call 48; (with_reducible refine (hKa _).mono ?_); rintro e w3 ⟨rfl, rfl⟩)
        | (go_at_call 67; refine (hA s2).mono ?_; rintro e w4 ⟨rfl, hx4⟩; have s4 := s2.ext hx4; have t4 := t2.ext hx4)
        | (go_at_call 49; (with_reducible refine (hF _ t4).mono ?_); rintro e w5 ⟨rfl, hx5⟩; have s5 := s4.ext hx5; have t5 := t4.ext hx5))
      go_ret3
      exact ⟨⟨_, _, rfl, ResG.nil _ _, ResG.nil _ _⟩, hx1.trans (hx2.trans (hx4.trans (hx5)))⟩
  · have hF := fun W hs => find_built P2 cap2 l2 o2 ms2 a hlb2 hr2 W hs ha h5
    have hKk := fun W => key_any k W
    rw [h1] at hKk
    clear h1
    have hKa := fun W => key_any a W
    rw [h2] at hKa
    clear h2
    have HM := Lib.hid hM
    rw [HM.out.1, HM.out.2.1, HM.out.2.2]
    have hb : (k == o) = true ∨ (k == o) = false := by cases (k == o) <;> simp
    rcases hb with hb | hb
    · have hA := fun {W} hs => asked_yes P cap l o ms k i hlb hr (w := W) hs hk h3 h4 true hb
      simp only [cond_true] at hA
      clear hM hlb hlb2 h3 h4 h5 hb
      go_enter Try.func42, Try.ntmps42
      go_wp2_with (first
        | (go_at_call 14; (with_reducible refine (hV _ h).mono ?_); rintro e w1 ⟨rfl, hx1⟩; have s1 := h.ext hx1; have t1 := h2'.ext hx1)
        | (go_at_call 14; (with_reducible refine (hV2 _ t1).mono ?_); rintro e w2 ⟨rfl, hx2⟩; have s2 := s1.ext hx2; have t2 := t1.ext hx2)
        | (go_at_call 48; (with_reducible refine (hKk _).mono ?_); rintro e w3 ⟨rfl, rfl⟩)
        | (go_at_call 48; (with_reducible refine (hKa _).mono ?_); rintro e w3 ⟨rfl, rfl⟩)
        | (go_at_call 67; refine (hA s2).mono ?_; rintro e w4 ⟨rfl, hx4⟩; have s4 := s2.ext hx4; have t4 := t2.ext hx4)
        | (go_at_call 49; (with_reducible refine (hF _ t4).mono ?_); rintro e w5 ⟨⟨z, rfl⟩, hx5⟩; have s5 := s4.ext hx5; have t5 := t4.ext hx5))
      go_ret3
      exact ⟨⟨_, _, rfl, ResG.nil _ _, ResG.nil _ _⟩, hx1.trans (hx2.trans (hx4.trans (hx5)))⟩
    · have hA := fun {W} hs => asked_yes P cap l o ms k i hlb hr (w := W) hs hk h3 h4 false hb
      simp only [cond_false] at hA
      clear hM hlb hlb2 h3 h4 h5 hb
      go_enter Try.func42, Try.ntmps42
      go_wp2_with (first
        | (go_at_call 14; (with_reducible refine (hV _ h).mono ?_); rintro e w1 ⟨rfl, hx1⟩; have s1 := h.ext hx1; have t1 := h2'.ext hx1)
        | (go_at_call 14; (with_reducible refine (hV2 _ t1).mono ?_); rintro e w2 ⟨rfl, hx2⟩; have s2 := s1.ext hx2; have t2 := t1.ext hx2)
        | (go_at_call 48; (with_reducible refine (hKk _).mono ?_); rintro e w3 ⟨rfl, rfl⟩)
        | (go_at_call 48; (with_reducible refine (hKa _).mono ?_); rintro e w3 ⟨rfl, rfl⟩)
        | (go_at_call 67; refine (hA s2).mono ?_; rintro e w4 ⟨rfl, hx4⟩; have s4 := s2.ext hx4; have t4 := t2.ext hx4)
        | (go_at_call 49; (with_reducible refine (hF _ t4).mono ?_); rintro e w5 ⟨⟨z, rfl⟩, hx5⟩; have s5 := s4.ext hx5; have t5 := t4.ext hx5))
      go_ret3
      exact ⟨⟨_, _, rfl, ResG.nil _ _, ResG.nil _ _⟩, hx1.trans (hx2.trans (hx4.trans (hx5)))⟩
  · have hF := fun W hs => find_place P2 cap2 l2 o2 ms2 a j hlb2 hr2 W hs ha h4 h5
    have hA := fun {W} hs => asked_yes P cap l o ms k 0 hlb hr (w := W) hs hk (by omega) h3.symm true (by simpa using h3)
    simp only [cond_true] at hA
    have hKk := fun W => key_any k W
    rw [h1] at hKk
    clear h1
    have hKa := fun W => key_any a W
    rw [h2] at hKa
    clear h2
    have HM := Lib.hid hM
    rw [HM.out.1, HM.out.2.1, HM.out.2.2]
    clear hM hlb hlb2 h3 h4 h5
    go_enter Try.func42, Try.ntmps42
    go_wp2_with (first
      | (go_at_call 14; (with_reducible refine (hV _ h).mono ?_); rintro e w1 ⟨rfl, hx1⟩; have s1 := h.ext hx1; have t1 := h2'.ext hx1)
      | (go_at_call 14; (with_reducible refine (hV2 _ t1).mono ?_); rintro e w2 ⟨rfl, hx2⟩; have s2 := s1.ext hx2; have t2 := t1.ext hx2)
      | (go_at_call 48; (with_reducible refine (hKk _).mono ?_); rintro e w3 ⟨rfl, rfl⟩)
      | (go_at_call 48; (with_reducible refine (hKa _).mono ?_); rintro e w3 ⟨rfl, rfl⟩)
      | (go_at_call 67; refine (hA s2).mono ?_; rintro e w4 ⟨rfl, hx4⟩; have s4 := s2.ext hx4; have t4 := t2.ext hx4)
      | (go_at_call 49; (with_reducible refine (hF _ t4).mono ?_); rintro e w5 ⟨rfl, hx5⟩; have s5 := s4.ext hx5; have t5 := t4.ext hx5))
    go_ret3
    exact ⟨⟨_, _, rfl, ResG.nil _ _, ResG.nil _ _⟩, hx1.trans (hx2.trans (hx4.trans (hx5)))⟩
  · have hA := fun {W} hs => asked_yes P cap l o ms k i hlb hr (w := W) hs hk h3 h4 false (by simpa using h5)
    simp only [cond_false] at hA
    have hF := fun W hs => find_place P2 cap2 l2 o2 ms2 a j hlb2 hr2 W hs ha h6 h7
    have hFk := fun W hs => find_place P2 cap2 l2 o2 ms2 k q hlb2 hr2 W hs hk h8 h9
    have hKk := fun W => key_any k W
    rw [h1] at hKk
    clear h1
    have hKa := fun W => key_any a W
    rw [h2] at hKa
    clear h2
    have HM := Lib.hid hM
    rw [HM.out.1, HM.out.2.1, HM.out.2.2]
    clear hM hlb hlb2 h3 h4 h5 h6 h7 h8 h9
    go_enter Try.func42, Try.ntmps42
    go_wp2_with (first
      | (go_at_call 14; (with_reducible refine (hV _ h).mono ?_); rintro e w1 ⟨rfl, hx1⟩; have s1 := h.ext hx1; have t1 := h2'.ext hx1)
      | (go_at_call 14; (with_reducible refine (hV2 _ t1).mono ?_); rintro e w2 ⟨rfl, hx2⟩; have s2 := s1.ext hx2; have t2 := t1.ext hx2)
      | (go_at_call 48; (with_reducible refine (hKk _).mono ?_); rintro e w3 ⟨rfl, rfl⟩)
      | (go_at_call 48; (with_reducible refine (hKa _).mono ?_); rintro e w3 ⟨rfl, rfl⟩)
      | (go_at_call 67; refine (hA s2).mono ?_; rintro e w4 ⟨rfl, hx4⟩; have s4 := s2.ext hx4; have t4 := t2.ext hx4)
      | (go_at_call 49; (with_reducible refine (hF _ t4).mono ?_); rintro e w5 ⟨rfl, hx5⟩; have s5 := s4.ext hx5; have t5 := t4.ext hx5)
      | (go_at_call 49; (with_reducible refine (hFk _ t5).mono ?_); rintro e w6 ⟨rfl, hx6⟩; have s6 := s5.ext hx6; have t6 := t5.ext hx6))
    go_ret3
    exact ⟨⟨_, _, rfl, ResG.nil _ _, ResG.nil _ _⟩, hx1.trans (hx2.trans (hx4.trans (hx5.trans (hx6))))⟩
  · have hA := fun {W} hs => asked_yes P cap l o ms k i hlb hr (w := W) hs hk h3 h4 false (by simpa using h5)
    simp only [cond_false] at hA
    have hF := fun W hs => find_place P2 cap2 l2 o2 ms2 a j hlb2 hr2 W hs ha h6 h7
    have hFk := fun W hs => find_built P2 cap2 l2 o2 ms2 k hlb2 hr2 W hs hk h8
    have hk1 := Lib.hid h1
    have hKk := fun W => key_any k W
    rw [h1] at hKk
    clear h1
    have hKa := fun W => key_any a W
    rw [h2] at hKa
    clear h2
    have hlen : l.length = ms.length + 1 := by rw [hlb]; exact built_len o ms
    have hlen2 : l2.length = ms2.length + 1 := by rw [hlb2]; exact built_len o2 ms2
    obtain ⟨b, off, hP, g3⟩ := own_cell h (by omega)
    rw [show own l = o from by rw [hlb]; exact built_own o ms] at g3
    subst hP
    obtain ⟨b2, off2, hP2, g4⟩ := own_cell h2' (by omega)
    rw [show own l2 = o2 from by rw [hlb2]; exact built_own o2 ms2] at g4
    subst hP2
    have c0 : (0 : Int) < l.length := by omega
    have c0n : 0 < l.length := by omega
    have c1 : (0 : Int) < l2.length := by omega
    have c1n : 0 < l2.length := by omega
    have HM := Lib.hid hM
    rw [HM.out.1, HM.out.2.1, HM.out.2.2]
    have e9 : (o == o2) = true := by simpa using h9
    clear hM hlb hlb2 h3 h4 h5 h6 h7 h8 h9 hlen hlen2
    go_enter Try.func42, Try.ntmps42
    go_wp2_with (first
      | (go_at_call 14; (with_reducible refine (hV _ h).mono ?_); rintro e w1 ⟨rfl, hx1⟩; have s1 := h.ext hx1; have t1 := h2'.ext hx1)
      | (go_at_call 14; (with_reducible refine (hV2 _ t1).mono ?_); rintro e w2 ⟨rfl, hx2⟩; have s2 := s1.ext hx2; have t2 := t1.ext hx2)
      | (go_at_call 48; (with_reducible refine (hKk _).mono ?_); rintro e w3 ⟨rfl, rfl⟩)
      | (go_at_call 48; (with_reducible refine (hKa _).mono ?_); rintro e w3 ⟨rfl, rfl⟩)
      | (go_at_call 67; refine (hA s2).mono ?_; rintro e w4 ⟨rfl, hx4⟩; have s4 := s2.ext hx4; have t4 := t2.ext hx4)
      | (go_at_call 49; (with_reducible refine (hF _ t4).mono ?_); rintro e w5 ⟨rfl, hx5⟩; have s5 := s4.ext hx5; have t5 := t4.ext hx5)
      | (go_at_call 49; (with_reducible refine (hFk _ t5).mono ?_); rintro e w6 ⟨⟨z, rfl⟩, hx6⟩; have s6 := s5.ext hx6; have t6 := t5.ext hx6; have hxw := hx1.trans (hx2.trans (hx4.trans (hx5.trans hx6))); have g3 := hxw.cell g3; have g4 := hxw.cell g4))
    go_quiet (fail)
    go_wp2
    go_ret3
    exact ⟨⟨_, _, rfl, ResG.nil _ _, ResG.nil _ _⟩, hxw.drewN _⟩
  · have hA := fun {W} hs => asked_yes P cap l o ms k i hlb hr (w := W) hs hk h3 h4 false (by simpa using h5)
    simp only [cond_false] at hA
    have hF := fun W hs => find_place P2 cap2 l2 o2 ms2 a j hlb2 hr2 W hs ha h6 h7
    have hFk := fun W hs => find_built P2 cap2 l2 o2 ms2 k hlb2 hr2 W hs hk h8
    have hk1 := Lib.hid h1
    have hKk := fun W => key_any k W
    rw [h1] at hKk
    clear h1
    have hKa := fun W => key_any a W
    rw [h2] at hKa
    clear h2
    have hlen : l.length = ms.length + 1 := by rw [hlb]; exact built_len o ms
    have hlen2 : l2.length = ms2.length + 1 := by rw [hlb2]; exact built_len o2 ms2
    obtain ⟨b, off, hP, g3⟩ := own_cell h (by omega)
    rw [show own l = o from by rw [hlb]; exact built_own o ms] at g3
    subst hP
    obtain ⟨b2, off2, hP2, g4⟩ := own_cell h2' (by omega)
    rw [show own l2 = o2 from by rw [hlb2]; exact built_own o2 ms2] at g4
    subst hP2
    have c0 : (0 : Int) < l.length := by omega
    have c0n : 0 < l.length := by omega
    have c1 : (0 : Int) < l2.length := by omega
    have c1n : 0 < l2.length := by omega
    have hW := fun {W} hs => without_any (some ⟨b, off, none⟩) cap l o ms k hlb hr (w := W) hs
    have hPt := fun {W} hs => put_any (some ⟨b2, off2, none⟩) cap2 l2 o2 ms2 a k hlb2 hr2 (right_ins hr2 hk1.out (not_round h8) (by omega)) (w := W) hs
    have e9 : (o == o2) = false := by simpa using h9
    have c5 : ¬ (500 : Int) ≤ l2.length := by omega
    have HM := Lib.hid hM
    rw [HM.out.1, HM.out.2.1, HM.out.2.2]
    clear hM hlb hlb2 h3 h4 h5 h6 h7 h8 h9 hlen hlen2
    go_enter Try.func42, Try.ntmps42
    go_wp2_with (first
      | (go_at_call 14; (with_reducible refine (hV _ h).mono ?_); rintro e w1 ⟨rfl, hx1⟩; have s1 := h.ext hx1; have t1 := h2'.ext hx1)
      | (go_at_call 14; (with_reducible refine (hV2 _ t1).mono ?_); rintro e w2 ⟨rfl, hx2⟩; have s2 := s1.ext hx2; have t2 := t1.ext hx2)
      | (go_at_call 48; (with_reducible refine (hKk _).mono ?_); rintro e w3 ⟨rfl, rfl⟩)
      | (go_at_call 48; (with_reducible refine (hKa _).mono ?_); rintro e w3 ⟨rfl, rfl⟩)
      | (go_at_call 67; refine (hA s2).mono ?_; rintro e w4 ⟨rfl, hx4⟩; have s4 := s2.ext hx4; have t4 := t2.ext hx4)
      | (go_at_call 49; (with_reducible refine (hF _ t4).mono ?_); rintro e w5 ⟨rfl, hx5⟩; have s5 := s4.ext hx5; have t5 := t4.ext hx5)
      | (go_at_call 49; (with_reducible refine (hFk _ t5).mono ?_); rintro e w6 ⟨⟨z, rfl⟩, hx6⟩; have s6 := s5.ext hx6; have t6 := t5.ext hx6; have hxw := hx1.trans (hx2.trans (hx4.trans (hx5.trans hx6))); have g3 := hxw.cell g3; have g4 := hxw.cell g4))
    go_quiet (fail)
    have s7 := s6.ext ((Ext.refl _).drewN nq)
    have t7 := t6.ext ((Ext.refl _).drewN nq)
    go_wp2_with (first
      | (go_at_call 68; refine (hW s7).mono ?_; rintro e w8 ⟨⟨v8, rfl, hv8⟩, hx8⟩; have t8 := t7.ext hx8)
      | (go_at_call 65; refine (hPt t8).mono ?_; rintro e w9 ⟨⟨v9, rfl, hv9⟩, hx9⟩))
    go_ret3
    exact ⟨⟨_, _, rfl, hv8.ext hx9, hv9⟩, (hxw.drewN _).trans (hx8.trans hx9)⟩
set_option maxHeartbeats 4000000 in
theorem rmove_any (P P2 : Option Addr) (cap cap2 : Nat) (l l2 : List Lk) (o o2 : Int) (ms ms2 : List Int) (k a : Int) (hlb : l = builtF o ms) (hr : Right (o :: ms)) (hlb2 : l2 = builtF o2 ms2) (hr2 : Right (o2 :: ms2)) {w : World} (h : SlL w P cap l) (h2' : SlL w P2 cap2 l2) (hk : OkI k) (ha : OkI a) (hn : ms.length ≤ 200) (hn2 : ms2.length ≤ 200) :
    Calls Try.prog 43 #[.slice P l.length cap, .slice P2 l2.length cap2, .int .i64 k, .int .i64 a] w fun e w' => (∃ v u, e = .returned (.tuple #[v, u, .int .i64 (mvE o ms o2 ms2 k a)]) ∧ ResL w' v (mvX o ms o2 ms2 k a) ∧ ResL w' u (mvY o ms o2 ms2 k a)) ∧ Ext w w' := by
  have hV := fun W hs => rvalid_any P cap l W hs (by rw [hlb]; exact built_okK hr)
  have hV2 := fun W hs => rvalid_any P2 cap2 l2 W hs (by rw [hlb2]; exact built_okK hr2)
  rw [show validB l = true from by rw [hlb]; exact validB_built hr] at hV
  rw [show validB l2 = true from by rw [hlb2]; exact validB_built hr2] at hV2
  rcases mv_cases o ms o2 ms2 k a with ⟨h1, hM⟩ | ⟨h1, h2, hM⟩ | ⟨h1, h2, h3, hM⟩ | ⟨i, h1, h2, h3, h4, h5, hM⟩ | ⟨j, h1, h2, h3, h4, h5, hM⟩ | ⟨i, j, q, h1, h2, h3, h4, h5, h6, h7, h8, h9, hM⟩ | ⟨i, j, h1, h2, h3, h4, h5, h6, h7, h8, h9, hM⟩ | ⟨i, j, h1, h2, h3, h4, h5, h6, h7, h8, h9, hM⟩
  · have hKk := fun W => rkey_any k W
    rw [h1] at hKk
    clear h1
    have HM := Lib.hid hM
    rw [HM.out.1, HM.out.2.1, HM.out.2.2]
    clear hM hlb hlb2
    go_enter Try.func43, Try.ntmps43
    go_wp2_with (first
      | (go_at_call 22; (with_reducible refine (hV _ h).mono ?_); rintro e w1 ⟨rfl, hx1⟩; have s1 := h.ext hx1; have t1 := h2'.ext hx1)
      | (go_at_call 22; (with_reducible refine (hV2 _ t1).mono ?_); rintro e w2 ⟨rfl, hx2⟩; have s2 := s1.ext hx2; have t2 := t1.ext hx2)
      | (go_at_call 51; (with_reducible refine (hKk _).mono ?_); rintro e w3 ⟨rfl, rfl⟩))
    go_ret3
    exact ⟨⟨_, _, rfl, ResG.nil _ _, ResG.nil _ _⟩, hx1.trans (hx2)⟩
  · have hKk := fun W => rkey_any k W
    rw [h1] at hKk
    clear h1
    have hKa := fun W => rkey_any a W
    rw [h2] at hKa
    clear h2
    have HM := Lib.hid hM
    rw [HM.out.1, HM.out.2.1, HM.out.2.2]
    clear hM hlb hlb2
    go_enter Try.func43, Try.ntmps43
    go_wp2_with (first
      | (go_at_call 22; (with_reducible refine (hV _ h).mono ?_); rintro e w1 ⟨rfl, hx1⟩; have s1 := h.ext hx1; have t1 := h2'.ext hx1)
      | (go_at_call 22; (with_reducible refine (hV2 _ t1).mono ?_); rintro e w2 ⟨rfl, hx2⟩; have s2 := s1.ext hx2; have t2 := t1.ext hx2)
      | (go_at_call 51; (with_reducible refine (hKk _).mono ?_); rintro e w3 ⟨rfl, rfl⟩)
      | (go_at_call 51; (with_reducible refine (hKa _).mono ?_); rintro e w3 ⟨rfl, rfl⟩))
    go_ret3
    exact ⟨⟨_, _, rfl, ResG.nil _ _, ResG.nil _ _⟩, hx1.trans (hx2)⟩
  · have hA := fun W hs => at_no P cap l o ms k hlb W hs h3
    have hKk := fun W => rkey_any k W
    rw [h1] at hKk
    clear h1
    have hKa := fun W => rkey_any a W
    rw [h2] at hKa
    clear h2
    have HM := Lib.hid hM
    rw [HM.out.1, HM.out.2.1, HM.out.2.2]
    clear hM hlb hlb2 h3
    go_enter Try.func43, Try.ntmps43
    go_wp2_with (first
      | (go_at_call 22; (with_reducible refine (hV _ h).mono ?_); rintro e w1 ⟨rfl, hx1⟩; have s1 := h.ext hx1; have t1 := h2'.ext hx1)
      | (go_at_call 22; (with_reducible refine (hV2 _ t1).mono ?_); rintro e w2 ⟨rfl, hx2⟩; have s2 := s1.ext hx2; have t2 := t1.ext hx2)
      | (go_at_call 51; (with_reducible refine (hKk _).mono ?_); rintro e w3 ⟨rfl, rfl⟩)
      | (go_at_call 51; (with_reducible refine (hKa _).mono ?_); rintro e w3 ⟨rfl, rfl⟩)
      | (go_at_call 52; (with_reducible refine (hA _ s2).mono ?_); rintro e w4 ⟨rfl, rfl⟩))
    go_ret3
    exact ⟨⟨_, _, rfl, ResG.nil _ _, ResG.nil _ _⟩, hx1.trans (hx2)⟩
  · have hA := fun W hs => at_yes P cap l o ms k i hlb hr W hs h3 h4
    have hB := fun W hs => at_no P2 cap2 l2 o2 ms2 a hlb2 W hs h5
    have hKk := fun W => rkey_any k W
    rw [h1] at hKk
    clear h1
    have hKa := fun W => rkey_any a W
    rw [h2] at hKa
    clear h2
    have HM := Lib.hid hM
    rw [HM.out.1, HM.out.2.1, HM.out.2.2]
    clear hM hlb hlb2 h3 h4 h5
    generalize placeF o ms i = pi at *
    go_enter Try.func43, Try.ntmps43
    go_wp2_with (first
      | (go_at_call 22; (with_reducible refine (hV _ h).mono ?_); rintro e w1 ⟨rfl, hx1⟩; have s1 := h.ext hx1; have t1 := h2'.ext hx1)
      | (go_at_call 22; (with_reducible refine (hV2 _ t1).mono ?_); rintro e w2 ⟨rfl, hx2⟩; have s2 := s1.ext hx2; have t2 := t1.ext hx2)
      | (go_at_call 51; (with_reducible refine (hKk _).mono ?_); rintro e w3 ⟨rfl, rfl⟩)
      | (go_at_call 51; (with_reducible refine (hKa _).mono ?_); rintro e w3 ⟨rfl, rfl⟩)
      | (go_at_call 52; (with_reducible refine (hA _ s2).mono ?_); rintro e w4 ⟨rfl, rfl⟩)
      | (go_at_call 52; (with_reducible refine (hB _ t2).mono ?_); rintro e w5 ⟨rfl, rfl⟩))
    go_ret3
    exact ⟨⟨_, _, rfl, ResG.nil _ _, ResG.nil _ _⟩, hx1.trans (hx2)⟩
  · have hA := fun W hs => at_yes P cap l o ms k 0 hlb hr W hs (by omega) h3.symm
    have hB := fun W hs => at_yes P2 cap2 l2 o2 ms2 a j hlb2 hr2 W hs h4 h5
    have hKk := fun W => rkey_any k W
    rw [h1] at hKk
    clear h1
    have hKa := fun W => rkey_any a W
    rw [h2] at hKa
    clear h2
    have hlen : l.length = ms.length + 1 := by rw [hlb]; exact built_len o ms
    have hlen2 : l2.length = ms2.length + 1 := by rw [hlb2]; exact built_len o2 ms2
    obtain ⟨b, off, hP, g3⟩ := own_cell h (by omega)
    rw [show own l = o from by rw [hlb]; exact built_own o ms] at g3
    subst hP
    obtain ⟨b2, off2, hP2, g4⟩ := own_cell h2' (by omega)
    rw [show own l2 = o2 from by rw [hlb2]; exact built_own o2 ms2] at g4
    subst hP2
    have c0 : (0 : Int) < l.length := by omega
    have c0n : 0 < l.length := by omega
    have c1 : (0 : Int) < l2.length := by omega
    have c1n : 0 < l2.length := by omega
    have e6 : (o == k) = true := by simpa using h3.symm
    have HM := Lib.hid hM
    rw [HM.out.1, HM.out.2.1, HM.out.2.2]
    clear hM hlb hlb2 h3 h4 h5 hlen hlen2
    generalize placeF o ms 0 = pi at *
    generalize placeF o2 ms2 j = pj at *
    go_enter Try.func43, Try.ntmps43
    go_wp2_with (first
      | (go_at_call 22; (with_reducible refine (hV _ h).mono ?_); rintro e w1 ⟨rfl, hx1⟩; have s1 := h.ext hx1; have t1 := h2'.ext hx1)
      | (go_at_call 22; (with_reducible refine (hV2 _ t1).mono ?_); rintro e w2 ⟨rfl, hx2⟩; have s2 := s1.ext hx2; have t2 := t1.ext hx2; have hxw := hx1.trans hx2; have g3 := hxw.cell g3; have g4 := hxw.cell g4)
      | (go_at_call 51; (with_reducible refine (hKk _).mono ?_); rintro e w3 ⟨rfl, rfl⟩)
      | (go_at_call 51; (with_reducible refine (hKa _).mono ?_); rintro e w3 ⟨rfl, rfl⟩)
      | (go_at_call 52; (with_reducible refine (hA _ s2).mono ?_); rintro e w4 ⟨rfl, rfl⟩)
      | (go_at_call 52; (with_reducible refine (hB _ t2).mono ?_); rintro e w5 ⟨rfl, rfl⟩))
    go_ret3
    exact ⟨⟨_, _, rfl, ResG.nil _ _, ResG.nil _ _⟩, hx1.trans (hx2)⟩
  · have hA := fun W hs => at_yes P cap l o ms k i hlb hr W hs h3 h4
    have hB := fun W hs => at_yes P2 cap2 l2 o2 ms2 a j hlb2 hr2 W hs h6 h7
    have e6 : (o == k) = false := by simpa using fun e => h5 e.symm
    have hC := fun W hs => at_yes P2 cap2 l2 o2 ms2 k q hlb2 hr2 W hs h8 h9
    have hKk := fun W => rkey_any k W
    rw [h1] at hKk
    clear h1
    have hKa := fun W => rkey_any a W
    rw [h2] at hKa
    clear h2
    have hlen : l.length = ms.length + 1 := by rw [hlb]; exact built_len o ms
    have hlen2 : l2.length = ms2.length + 1 := by rw [hlb2]; exact built_len o2 ms2
    obtain ⟨b, off, hP, g3⟩ := own_cell h (by omega)
    rw [show own l = o from by rw [hlb]; exact built_own o ms] at g3
    subst hP
    obtain ⟨b2, off2, hP2, g4⟩ := own_cell h2' (by omega)
    rw [show own l2 = o2 from by rw [hlb2]; exact built_own o2 ms2] at g4
    subst hP2
    have c0 : (0 : Int) < l.length := by omega
    have c0n : 0 < l.length := by omega
    have c1 : (0 : Int) < l2.length := by omega
    have c1n : 0 < l2.length := by omega
    have HM := Lib.hid hM
    rw [HM.out.1, HM.out.2.1, HM.out.2.2]
    clear hM hlb hlb2 h3 h4 h5 h6 h7 h8 h9 hlen hlen2
    generalize placeF o ms i = pi at *
    generalize placeF o2 ms2 j = pj at *
    generalize placeF o2 ms2 q = pq at *
    go_enter Try.func43, Try.ntmps43
    go_wp2_with (first
      | (go_at_call 22; (with_reducible refine (hV _ h).mono ?_); rintro e w1 ⟨rfl, hx1⟩; have s1 := h.ext hx1; have t1 := h2'.ext hx1)
      | (go_at_call 22; (with_reducible refine (hV2 _ t1).mono ?_); rintro e w2 ⟨rfl, hx2⟩; have s2 := s1.ext hx2; have t2 := t1.ext hx2; have hxw := hx1.trans hx2; have g3 := hxw.cell g3; have g4 := hxw.cell g4)
      | (go_at_call 51; (with_reducible refine (hKk _).mono ?_); rintro e w3 ⟨rfl, rfl⟩)
      | (go_at_call 51; (with_reducible refine (hKa _).mono ?_); rintro e w3 ⟨rfl, rfl⟩)
      | (go_at_call 52; (with_reducible refine (hA _ s2).mono ?_); rintro e w4 ⟨rfl, rfl⟩)
      | (go_at_call 52; (with_reducible refine (hB _ t2).mono ?_); rintro e w5 ⟨rfl, rfl⟩)
      | (go_at_call 52; (with_reducible refine (hC _ t2).mono ?_); rintro e w6 ⟨rfl, rfl⟩))
    go_ret3
    exact ⟨⟨_, _, rfl, ResG.nil _ _, ResG.nil _ _⟩, hx1.trans (hx2)⟩
  · have hA := fun W hs => at_yes P cap l o ms k i hlb hr W hs h3 h4
    have hB := fun W hs => at_yes P2 cap2 l2 o2 ms2 a j hlb2 hr2 W hs h6 h7
    have e6 : (o == k) = false := by simpa using fun e => h5 e.symm
    have hC := fun W hs => at_no P2 cap2 l2 o2 ms2 k hlb2 W hs h8
    have hKk := fun W => rkey_any k W
    rw [h1] at hKk
    clear h1
    have hKa := fun W => rkey_any a W
    rw [h2] at hKa
    clear h2
    have hlen : l.length = ms.length + 1 := by rw [hlb]; exact built_len o ms
    have hlen2 : l2.length = ms2.length + 1 := by rw [hlb2]; exact built_len o2 ms2
    obtain ⟨b, off, hP, g3⟩ := own_cell h (by omega)
    rw [show own l = o from by rw [hlb]; exact built_own o ms] at g3
    subst hP
    obtain ⟨b2, off2, hP2, g4⟩ := own_cell h2' (by omega)
    rw [show own l2 = o2 from by rw [hlb2]; exact built_own o2 ms2] at g4
    subst hP2
    have c0 : (0 : Int) < l.length := by omega
    have c0n : 0 < l.length := by omega
    have c1 : (0 : Int) < l2.length := by omega
    have c1n : 0 < l2.length := by omega
    have HM := Lib.hid hM
    rw [HM.out.1, HM.out.2.1, HM.out.2.2]
    have e9 : (o == o2) = true := by simpa using h9
    clear hM hlb hlb2 h3 h4 h5 h6 h7 h8 h9 hlen hlen2
    generalize placeF o ms i = pi at *
    generalize placeF o2 ms2 j = pj at *
    go_enter Try.func43, Try.ntmps43
    go_wp2_with (first
      | (go_at_call 22; (with_reducible refine (hV _ h).mono ?_); rintro e w1 ⟨rfl, hx1⟩; have s1 := h.ext hx1; have t1 := h2'.ext hx1)
      | (go_at_call 22; (with_reducible refine (hV2 _ t1).mono ?_); rintro e w2 ⟨rfl, hx2⟩; have s2 := s1.ext hx2; have t2 := t1.ext hx2; have hxw := hx1.trans hx2; have g3 := hxw.cell g3; have g4 := hxw.cell g4)
      | (go_at_call 51; (with_reducible refine (hKk _).mono ?_); rintro e w3 ⟨rfl, rfl⟩)
      | (go_at_call 51; (with_reducible refine (hKa _).mono ?_); rintro e w3 ⟨rfl, rfl⟩)
      | (go_at_call 52; (with_reducible refine (hA _ s2).mono ?_); rintro e w4 ⟨rfl, rfl⟩)
      | (go_at_call 52; (with_reducible refine (hB _ t2).mono ?_); rintro e w5 ⟨rfl, rfl⟩)
      | (go_at_call 52; (with_reducible refine (hC _ t2).mono ?_); rintro e w6 ⟨rfl, rfl⟩))
    go_quiet (fail)
    go_wp2
    go_ret3
    exact ⟨⟨_, _, rfl, ResG.nil _ _, ResG.nil _ _⟩, hxw.drewN _⟩
  · have hA := fun W hs => at_yes P cap l o ms k i hlb hr W hs h3 h4
    have hB := fun W hs => at_yes P2 cap2 l2 o2 ms2 a j hlb2 hr2 W hs h6 h7
    have e6 : (o == k) = false := by simpa using fun e => h5 e.symm
    have hC := fun W hs => at_no P2 cap2 l2 o2 ms2 k hlb2 W hs h8
    have hKk := fun W => rkey_any k W
    rw [h1] at hKk
    clear h1
    have hKa := fun W => rkey_any a W
    rw [h2] at hKa
    clear h2
    have hlen : l.length = ms.length + 1 := by rw [hlb]; exact built_len o ms
    have hlen2 : l2.length = ms2.length + 1 := by rw [hlb2]; exact built_len o2 ms2
    obtain ⟨b, off, hP, g3⟩ := own_cell h (by omega)
    rw [show own l = o from by rw [hlb]; exact built_own o ms] at g3
    subst hP
    obtain ⟨b2, off2, hP2, g4⟩ := own_cell h2' (by omega)
    rw [show own l2 = o2 from by rw [hlb2]; exact built_own o2 ms2] at g4
    subst hP2
    have c0 : (0 : Int) < l.length := by omega
    have c0n : 0 < l.length := by omega
    have c1 : (0 : Int) < l2.length := by omega
    have c1n : 0 < l2.length := by omega
    have hRM := fun {W} hs => rmembers_form (some ⟨b, off, none⟩) cap l o ms hlb hr (w := W) hs
    have hRM2 := fun {W} hs => rmembers_form (some ⟨b2, off2, none⟩) cap2 l2 o2 ms2 hlb2 hr2 (w := W) hs
    have hWo := fun {W Q c} hs => rwithout_form Q c ms k (w := W) hs (by omega)
    have hrl : (remF ms k).length ≤ ms.length := List.length_filter_le _ _
    have hBt := fun {W Q c} hs (hq : FormG Q c (remF ms k)) => built_res (W := W) (Q := Q) (c := c) o (remF ms k) (remF ms k).length hs hq.nil_cap rfl (by omega)
    have hPt := fun {W Q c} hs hq => rput_res (W := W) (Q := Q) (c := c) o2 ms2 a k hs hq (by omega) (no_first hr2)
    have hBt2 := fun {W Q c} hs hq => built_res (W := W) (Q := Q) (c := c) o2 (insF ms2 a k) (ms2.length + 1) hs hq (insF_len ms2 a k) (by omega)
    have e9 : (o == o2) = false := by simpa using h9
    have c5 : (l2.length == 500) = false := by
      have : l2.length ≠ 500 := by omega
      simpa using this
    have c6 : ((l2.length : Int) == 500) = false := by
      have : (l2.length : Int) ≠ 500 := by omega
      simpa using this
    have HM := Lib.hid hM
    rw [HM.out.1, HM.out.2.1, HM.out.2.2]
    clear hM hlb hlb2 h3 h4 h5 h6 h7 h8 h9 hlen hlen2 hrl
    generalize placeF o ms i = pi at *
    generalize placeF o2 ms2 j = pj at *
    generalize remF ms k = rm at *
    generalize insF ms2 a k = im at *
    go_enter Try.func43, Try.ntmps43
    go_wp2_with (first
      | (go_at_call 22; (with_reducible refine (hV _ h).mono ?_); rintro e w1 ⟨rfl, hx1⟩; have s1 := h.ext hx1; have t1 := h2'.ext hx1)
      | (go_at_call 22; (with_reducible refine (hV2 _ t1).mono ?_); rintro e w2 ⟨rfl, hx2⟩; have s2 := s1.ext hx2; have t2 := t1.ext hx2; have hxw := hx1.trans hx2; have g3 := hxw.cell g3; have g4 := hxw.cell g4)
      | (go_at_call 51; (with_reducible refine (hKk _).mono ?_); rintro e w3 ⟨rfl, rfl⟩)
      | (go_at_call 51; (with_reducible refine (hKa _).mono ?_); rintro e w3 ⟨rfl, rfl⟩)
      | (go_at_call 52; (with_reducible refine (hA _ s2).mono ?_); rintro e w4 ⟨rfl, rfl⟩)
      | (go_at_call 52; (with_reducible refine (hB _ t2).mono ?_); rintro e w5 ⟨rfl, rfl⟩)
      | (go_at_call 52; (with_reducible refine (hC _ t2).mono ?_); rintro e w6 ⟨rfl, rfl⟩))
    go_quiet (fail)
    go_wp2
    go_region_held3 (fun w' => w'.cell? ⟨b, off + 3, none⟩ = some (.int .i64 o) ∧ w'.cell? ⟨b2, off2 + 3, none⟩ = some (.int .i64 o2)) (first | go_keep | (refine ⟨Ext.cell ?_ g3, Ext.cell ?_ g4⟩ <;> (repeat (first | exact Ext.refl _ | assumption | refine Ext.trans ?_ hxa | refine Ext.trans ?_ hx9 | refine Ext.trans ?_ hx8 | refine Ext.trans ?_ hx7 | refine Ext.trans ?_ hx6 | refine Ext.trans ?_ hx5 | refine Ext.drew ?_ | refine Ext.alloc ?_ _ | refine Ext.drewN ?_ _))))
      (first
        | (go_at_call 58; (with_reducible refine (hRM (s2.ext ?_)).mono ?_)
           · (repeat (first | exact Ext.refl _ | assumption | refine Ext.trans ?_ hxa | refine Ext.trans ?_ hx9 | refine Ext.trans ?_ hx8 | refine Ext.trans ?_ hx7 | refine Ext.trans ?_ hx6 | refine Ext.trans ?_ hx5 | refine Ext.drew ?_ | refine Ext.alloc ?_ _ | refine Ext.drewN ?_ _))
           rintro e w5 ⟨⟨P5, c5', rfl, t5, q5⟩, hx5⟩)
        | (go_at_call 69; refine (hWo (t5.ext ?_)).mono ?_
           · (repeat (first | exact Ext.refl _ | assumption | refine Ext.drew ?_ | refine Ext.alloc ?_ _ | refine Ext.drewN ?_ _))
           rintro e w6 ⟨⟨P6, c6', rfl, t6, q6⟩, hx6⟩)
        | (go_at_call 47; (with_reducible refine (hBt (t6.ext ?_) q6).mono ?_)
           · (repeat (first | exact Ext.refl _ | assumption | refine Ext.drew ?_ | refine Ext.alloc ?_ _ | refine Ext.drewN ?_ _))
           rintro e w7 ⟨⟨v7, rfl, hv7⟩, hx7⟩)
        | (go_at_call 58; (with_reducible refine (hRM2 (t2.ext ?_)).mono ?_)
           · (repeat (first | exact Ext.refl _ | assumption | refine Ext.trans ?_ hxa | refine Ext.trans ?_ hx9 | refine Ext.trans ?_ hx8 | refine Ext.trans ?_ hx7 | refine Ext.trans ?_ hx6 | refine Ext.trans ?_ hx5 | refine Ext.drew ?_ | refine Ext.alloc ?_ _ | refine Ext.drewN ?_ _))
           rintro e w8 ⟨⟨P8, c8', rfl, t8, q8⟩, hx8⟩)
        | (go_at_call 66; refine (hPt (t8.ext ?_) q8).mono ?_
           · (repeat (first | exact Ext.refl _ | assumption | refine Ext.drew ?_ | refine Ext.alloc ?_ _ | refine Ext.drewN ?_ _))
           rintro e w9 ⟨⟨P9, c9', rfl, t9, q9⟩, hx9⟩)
        | (go_at_call 47; (with_reducible refine (hBt2 (t9.ext ?_) q9).mono ?_)
           · (repeat (first | exact Ext.refl _ | assumption | refine Ext.drew ?_ | refine Ext.alloc ?_ _ | refine Ext.drewN ?_ _))
           rintro e wa ⟨⟨va, rfl, hva⟩, hxa⟩)
        | fail)
    all_goals
      go_wp2
      go_ret3
      refine ⟨⟨_, _, rfl, hv7.ext ?_, hva⟩, hxw.trans ?_⟩
      · (repeat (first | exact Ext.refl _ | assumption | refine Ext.trans ?_ hxa | refine Ext.trans ?_ hx9 | refine Ext.trans ?_ hx8 | refine Ext.trans ?_ hx7 | refine Ext.trans ?_ hx6 | refine Ext.trans ?_ hx5 | refine Ext.drew ?_ | refine Ext.alloc ?_ _ | refine Ext.drewN ?_ _))
      · (repeat (first | exact Ext.refl _ | assumption | refine Ext.trans ?_ hxa | refine Ext.trans ?_ hx9 | refine Ext.trans ?_ hx8 | refine Ext.trans ?_ hx7 | refine Ext.trans ?_ hx6 | refine Ext.trans ?_ hx5 | refine Ext.drew ?_ | refine Ext.alloc ?_ _ | refine Ext.drewN ?_ _))
end Go.Proofs.Ythmcdlieglollaa
