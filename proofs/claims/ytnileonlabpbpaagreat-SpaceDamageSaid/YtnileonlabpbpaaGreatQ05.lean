/- ReadA; ReadB; Fills; ReadC; ReadD (merged by group.py) -/
import Derived.Test.YtnileonlabpbpaaGreatQ04
import Derived.Maps.AppendAt
import Derived.Laws.EntriesVeiled
namespace Go.Proofs.YtnileonlabpbpaaGreat
section
open Go.RowKit
set_option linter.unusedVariables false
set_option maxRecDepth 20000

theorem WrongR.uniq {p : ByteArray} {a e b g : Nat} (h : WrongR p a e) (k : WrongR p b g) : a = b ∧ e = g := by
  rcases h with ⟨h1, ha, he⟩ | ⟨h1, h2, ha, he⟩ | ⟨h1, ⟨i, hi, hg, hb, ha⟩, he⟩ | ⟨h1, h2, h3, ha, he⟩ | ⟨h1, h2, h3, ⟨i, g1, g2, g3, g4, ha⟩, he⟩ | ⟨h1, h2, h3, h4, ha, he⟩ <;>
  rcases k with ⟨k1, ka, ke⟩ | ⟨k1, k2, ka, ke⟩ | ⟨k1, ⟨j, kj, kg, kb, ka⟩, ke⟩ | ⟨k1, k2, k3, ka, ke⟩ | ⟨k1, k2, k3, ⟨j, r1, r2, r3, r4, ka⟩, ke⟩ | ⟨k1, k2, k3, k4, ka, ke⟩
  all_goals first
    | exact ⟨by omega, by omega⟩
    | exact absurd (h1.symm.trans k1) (by decide)
    | exact absurd (h1.symm.trans k1.1) (by decide)
    | exact absurd (k1.symm.trans h1.1) (by decide)
    | exact absurd k1.2 h2
    | exact absurd h1.2 k2
    | (have := good_bad hg hb kg kb; subst this; exact ⟨by omega, by omega⟩)
    | exact absurd hb (k2 i hi)
    | exact absurd kb (h2 j kj)
    | exact absurd (h4 j r1 r2) r4
    | exact absurd (k4 i g1 g2) g4
    | (have hij : i = j := by
        rcases Nat.lt_trichotomy i j with h | h | h
        · exact absurd (r3 i g1 h) g4
        · exact h
        · exact absurd (g3 j r1 h) r4
       subst hij
       exact ⟨by omega, by omega⟩)

theorem refTwo_at (p : ByteArray) (x : Int) (i : Nat) (w : World) (hx : x = i) (hp : p.size ≤ 140737488355328) (hi : i + 1 < p.size) :
    Calls Tryz.prog 78 #[.string p, .int .i64 x] w fun e w' => e = .returned (.int .i64 (twoF p i)) ∧ ∃ n, w' = w.drewN n := by
  subst hx
  exact refTwo2_any p i w hp hi

theorem refWrong_size (p : ByteArray) (w : World) (hp : p.size ≤ 140737488355328) (hs : sizeB p.size = false) :
    Calls Tryz.prog 79 #[.string p] w fun e w' => e = .returned (.tuple #[.int .i64 0, .int .i64 11]) ∧ Ext w w' := by
  go_enter Tryz.func79, Tryz.ntmps79
  go_wp2_with (go_at_call 17; refine (refSize_any _ _ (by omega) (by omega)).mono ?_; rintro e w1 ⟨rfl, rfl⟩; rw [hs])
  go_ret2
  exact ⟨rfl, Ext.refl _⟩
theorem refWrong_head (p : ByteArray) (w : World) (hs : sizeB p.size = true) (hn : ¬ (twoF p 0 ≤ 200 ∧ 2 + 4 * twoF p 0 ≤ p.size)) :
    Calls Tryz.prog 79 #[.string p] w fun e w' => e = .returned (.tuple #[.int .i64 0, .int .i64 12]) ∧ Ext w w' := by
  have hz : 32 ≤ p.size ∧ p.size ≤ 4096 := by simp [sizeB] at hs; omega
  obtain ⟨z1, z2⟩ := hz
  have hb : twoF p 0 < 65536 := by have := bt_lt p 0; have := bt_lt p (0 + 1); unfold twoF; omega
  by_cases h2 : 200 < twoF p 0
  · go_enter Tryz.func79, Tryz.ntmps79
    go_wp2_with (first
      | (go_at_call 17; refine (refSize_any _ _ (by omega) (by omega)).mono ?_; rintro e w1 ⟨rfl, rfl⟩; rw [hs])
      | (go_at_call 78; refine (refTwo_at p _ 0 _ (by omega) (by omega) (by omega)).mono ?_; rintro e w1 ⟨rfl, n0, rfl⟩))
    go_ret2
    exact ⟨rfl, (Ext.refl _).drewN _⟩
  · have h3 : (p.size : Int) < 2 + 4 * twoF p 0 := by omega
    go_enter Tryz.func79, Tryz.ntmps79
    go_wp2_with (first
      | (go_at_call 17; refine (refSize_any _ _ (by omega) (by omega)).mono ?_; rintro e w1 ⟨rfl, rfl⟩; rw [hs])
      | (go_at_call 78; refine (refTwo_at p _ 0 _ (by omega) (by omega) (by omega)).mono ?_; rintro e w1 ⟨rfl, n0, rfl⟩))
    go_ret2
    exact ⟨rfl, (Ext.refl _).drewN _⟩

theorem ret_at {a b : Int} (h : a = b) : Ending.returned (.tuple #[.int .i64 a, .int .i64 12]) = .returned (.tuple #[.int .i64 b, .int .i64 12]) := by rw [h]
theorem slot_case {p : ByteArray} (j : Nat) (h : ¬ badS p (topF p j) j) :
    (twoF p (2 + 4 * j) = 0 ∧ twoF p (4 + 4 * j) = 0 ∧ topF p (j + 1) = topF p j) ∨
    (twoF p (4 + 4 * j) ≠ 0 ∧ twoF p (2 + 4 * j) + twoF p (4 + 4 * j) = topF p j ∧ 2 + 4 * twoF p 0 ≤ twoF p (2 + 4 * j) ∧ topF p (j + 1) = twoF p (2 + 4 * j)) := by
  by_cases hf : freeS p j
  · exact .inl ⟨hf.1, hf.2, by simp [topF, hf]⟩
  · right
    unfold badS at h
    have h' : ¬ (twoF p (4 + 4 * j) = 0 ∨ twoF p (2 + 4 * j) + twoF p (4 + 4 * j) ≠ topF p j ∨ twoF p (2 + 4 * j) < 2 + 4 * twoF p 0) := fun h'' => h ⟨hf, h''⟩
    exact ⟨by omega, by omega, by omega, by simp [topF, hf]⟩
theorem twoF_lt (p : ByteArray) (i : Nat) : twoF p i < 65536 := by have := bt_lt p i; have := bt_lt p (i + 1); unfold twoF; omega

set_option maxHeartbeats 2000000 in
theorem refWrong_bad (p : ByteArray) (w : World) (hh : headR p) (k0 : Nat) (hk0 : k0 < twoF p 0) (hg : goodS p k0) (hb : badS p (topF p k0) k0) :
    Calls Tryz.prog 79 #[.string p] w fun e w' => e = .returned (.tuple #[.int .i64 (2 + 4 * k0 : Nat), .int .i64 12]) ∧ Ext w w' := by
  obtain ⟨hs, hn2, hN⟩ := hh
  have hz' : 32 ≤ p.size ∧ p.size ≤ 4096 := by simp [sizeB] at hs; omega
  obtain ⟨z1, z2⟩ := hz'
  have h3 : ¬ (p.size : Int) < 2 + 4 * twoF p 0 := by omega
  go_enter Tryz.func79, Tryz.ntmps79
  go_wp2_with (first
    | (go_at_call 17; refine (refSize_any _ _ (by omega) (by omega)).mono ?_; rintro e w1 ⟨rfl, rfl⟩; rw [hs])
    | (go_at_call 78; refine (refTwo_at p _ 0 _ (by omega) (by omega) (by omega)).mono ?_; rintro e w1 ⟨rfl, n0, rfl⟩))
  go_loopw [5, 6] (fun t k wr => ∃ j : Nat, j ≤ k0 ∧ k = .int .i64 (j + 1) ∧ t = .int .i64 (topF p j) ∧ Ext w wr) (fun _ k _ => k0 + 1 - (intOf k).toNat)
  case atStart => exact ⟨0, by omega, rfl, rfl, (Ext.refl w).drewN n0⟩
  case round =>
    obtain ⟨j, hj, rfl, rfl, hx⟩ := hrel
    have c1 := twoF_lt p (2 + 4 * j)
    have c2 := twoF_lt p (4 + 4 * j)
    have c3 := topF_lt p z2 j
    by_cases hlt : j < k0
    · have hsl := slot_case j (hg j hlt)
      have HS := Lib.hid hsl
      clear hsl
      rcases HS.out with ⟨e1, e2, e3⟩ | ⟨e1, e2, e3, e4⟩
      · have E3 := Lib.hid e3
        clear e3 HS
        have d1 : ¬ (j : Int) + 1 = twoF p 0 := by omega
        go_wp2_with (first
        | (go_at_call 78; refine (refTwo_at p _ (2 + 4 * j) _ (by omega) (by omega) (by omega)).mono ?_; rintro e w1 ⟨rfl, n1, rfl⟩)
        | (go_at_call 78; refine (refTwo_at p _ (4 + 4 * j) _ (by omega) (by omega) (by omega)).mono ?_; rintro e w2 ⟨rfl, n2, rfl⟩))
        all_goals exact ⟨⟨j + 1, by omega, by go_num, by rw [E3.out], hx.drewN _⟩, by simp [intOf]; omega⟩
      · have E4 := Lib.hid e4
        clear e4 HS
        obtain ⟨off, hoff⟩ : ∃ off, twoF p (2 + 4 * j) = off := ⟨_, rfl⟩
        obtain ⟨len, hlen⟩ : ∃ len, twoF p (4 + 4 * j) = len := ⟨_, rfl⟩
        obtain ⟨top, htop⟩ : ∃ top, topF p j = top := ⟨_, rfl⟩
        rw [hoff] at E4 e2 e3 c1
        rw [hlen] at e1 e2 c2
        rw [htop] at e2 c3
        rw [htop]
        have HO := Lib.hid hoff
        have HL := Lib.hid hlen
        clear hoff hlen htop
        have d1 : ((off : Int) = 0) = False := by simp; omega
        have d2 : ((len : Int) = 0) = False := by simp; omega
        have d3 : ((off : Int) == 0) = false := by simp; omega
        have d4 : ((len : Int) == 0) = false := by simp; omega
        have d5 : ((off : Int) != (top : Int) - len) = false := by simp; omega
        have d6 : ¬ (off : Int) < 2 + 4 * twoF p 0 := by omega
        clear e1 e2 e3
        go_wp2_with (first
          | (go_at_call 78; refine (refTwo_at p _ (2 + 4 * j) _ (by omega) (by omega) (by omega)).mono ?_; rintro e w1 ⟨rfl, n1, rfl⟩; rw [HO.out])
          | (go_at_call 78; refine (refTwo_at p _ (4 + 4 * j) _ (by omega) (by omega) (by omega)).mono ?_; rintro e w2 ⟨rfl, n2, rfl⟩; rw [HL.out]))
        all_goals exact ⟨⟨j + 1, by omega, by go_num, by rw [E4.out], hx.drewN _⟩, by simp [intOf]; omega⟩
    · obtain rfl : j = k0 := by omega
      unfold badS freeS at hb
      obtain ⟨off, hoff⟩ : ∃ off, twoF p (2 + 4 * j) = off := ⟨_, rfl⟩
      obtain ⟨len, hlen⟩ : ∃ len, twoF p (4 + 4 * j) = len := ⟨_, rfl⟩
      obtain ⟨top, htop⟩ : ∃ top, topF p j = top := ⟨_, rfl⟩
      rw [hoff, hlen, htop] at hb
      rw [hoff] at c1
      rw [hlen] at c2
      rw [htop] at c3
      rw [htop]
      have HO := Lib.hid hoff
      have HL := Lib.hid hlen
      obtain ⟨b1, b2⟩ := hb
      clear hoff hlen htop hg
      by_cases l0 : len = 0
      · subst l0
        have d1 : ((off : Int) = 0) = False := by simp; omega
        have d3 : ((off : Int) == 0) = false := by simp; omega
        clear b1 b2
        go_wp2_with (first
          | (go_at_call 78; refine (refTwo_at p _ (2 + 4 * j) _ (by omega) (by omega) (by omega)).mono ?_; rintro e w1 ⟨rfl, n1, rfl⟩; rw [HO.out])
          | (go_at_call 78; refine (refTwo_at p _ (4 + 4 * j) _ (by omega) (by omega) (by omega)).mono ?_; rintro e w2 ⟨rfl, n2, rfl⟩; rw [HL.out]))
        all_goals go_ret2
        all_goals exact ⟨ret_at (by omega), hx.drewN _⟩
      · have d2 : ((len : Int) = 0) = False := by simp; omega
        have d4 : ((len : Int) == 0) = false := by simp; omega
        by_cases o0 : off = 0
        · subst o0
          clear b1 b2
          go_wp2_with (first
            | (go_at_call 78; refine (refTwo_at p _ (2 + 4 * j) _ (by omega) (by omega) (by omega)).mono ?_; rintro e w1 ⟨rfl, n1, rfl⟩; rw [HO.out])
            | (go_at_call 78; refine (refTwo_at p _ (4 + 4 * j) _ (by omega) (by omega) (by omega)).mono ?_; rintro e w2 ⟨rfl, n2, rfl⟩; rw [HL.out]))
          all_goals go_ret2
          all_goals exact ⟨ret_at (by omega), hx.drewN _⟩
        · have d1 : ((off : Int) = 0) = False := by simp; omega
          have d3 : ((off : Int) == 0) = false := by simp; omega
          by_cases t0 : off + len = top
          · have d5 : ((off : Int) != (top : Int) - len) = false := by simp; omega
            have d6 : (off : Int) < 2 + 4 * twoF p 0 := by omega
            clear b1 b2 t0
            go_wp2_with (first
              | (go_at_call 78; refine (refTwo_at p _ (2 + 4 * j) _ (by omega) (by omega) (by omega)).mono ?_; rintro e w1 ⟨rfl, n1, rfl⟩; rw [HO.out])
              | (go_at_call 78; refine (refTwo_at p _ (4 + 4 * j) _ (by omega) (by omega) (by omega)).mono ?_; rintro e w2 ⟨rfl, n2, rfl⟩; rw [HL.out]))
            all_goals go_ret2
            all_goals exact ⟨ret_at (by omega), hx.drewN _⟩
          · have d5 : ((off : Int) != (top : Int) - len) = true := by simp; omega
            clear b1 b2 t0
            go_wp2_with (first
              | (go_at_call 78; refine (refTwo_at p _ (2 + 4 * j) _ (by omega) (by omega) (by omega)).mono ?_; rintro e w1 ⟨rfl, n1, rfl⟩; rw [HO.out])
              | (go_at_call 78; refine (refTwo_at p _ (4 + 4 * j) _ (by omega) (by omega) (by omega)).mono ?_; rintro e w2 ⟨rfl, n2, rfl⟩; rw [HL.out]))
            all_goals go_ret2
            all_goals exact ⟨ret_at (by omega), hx.drewN _⟩

set_option maxHeartbeats 2000000 in
theorem refWrong_free (p : ByteArray) (w : World) (hh : headR p) (k0 : Nat) (hk0 : k0 + 1 = twoF p 0) (hg : goodS p k0) (hf : freeS p k0) :
    Calls Tryz.prog 79 #[.string p] w fun e w' => e = .returned (.tuple #[.int .i64 (2 + 4 * k0 : Nat), .int .i64 12]) ∧ Ext w w' := by
  obtain ⟨hs, hn2, hN⟩ := hh
  have hz' : 32 ≤ p.size ∧ p.size ≤ 4096 := by simp [sizeB] at hs; omega
  obtain ⟨z1, z2⟩ := hz'
  have h3 : ¬ (p.size : Int) < 2 + 4 * twoF p 0 := by omega
  go_enter Tryz.func79, Tryz.ntmps79
  go_wp2_with (first
    | (go_at_call 17; refine (refSize_any _ _ (by omega) (by omega)).mono ?_; rintro e w1 ⟨rfl, rfl⟩; rw [hs])
    | (go_at_call 78; refine (refTwo_at p _ 0 _ (by omega) (by omega) (by omega)).mono ?_; rintro e w1 ⟨rfl, n0, rfl⟩))
  go_loopw [5, 6] (fun t k wr => ∃ j : Nat, j ≤ k0 ∧ k = .int .i64 (j + 1) ∧ t = .int .i64 (topF p j) ∧ Ext w wr) (fun _ k _ => k0 + 1 - (intOf k).toNat)
  case atStart => exact ⟨0, by omega, rfl, rfl, (Ext.refl w).drewN n0⟩
  case round =>
    obtain ⟨j, hj, rfl, rfl, hx⟩ := hrel
    have c1 := twoF_lt p (2 + 4 * j)
    have c2 := twoF_lt p (4 + 4 * j)
    have c3 := topF_lt p z2 j
    by_cases hlt : j < k0
    · have hsl := slot_case j (hg j hlt)
      have HS := Lib.hid hsl
      clear hsl
      rcases HS.out with ⟨e1, e2, e3⟩ | ⟨e1, e2, e3, e4⟩
      · have E3 := Lib.hid e3
        clear e3 HS
        have d1 : ¬ (j : Int) + 1 = twoF p 0 := by omega
        go_wp2_with (first
        | (go_at_call 78; refine (refTwo_at p _ (2 + 4 * j) _ (by omega) (by omega) (by omega)).mono ?_; rintro e w1 ⟨rfl, n1, rfl⟩)
        | (go_at_call 78; refine (refTwo_at p _ (4 + 4 * j) _ (by omega) (by omega) (by omega)).mono ?_; rintro e w2 ⟨rfl, n2, rfl⟩))
        all_goals exact ⟨⟨j + 1, by omega, by go_num, by rw [E3.out], hx.drewN _⟩, by simp [intOf]; omega⟩
      · have E4 := Lib.hid e4
        clear e4 HS
        obtain ⟨off, hoff⟩ : ∃ off, twoF p (2 + 4 * j) = off := ⟨_, rfl⟩
        obtain ⟨len, hlen⟩ : ∃ len, twoF p (4 + 4 * j) = len := ⟨_, rfl⟩
        obtain ⟨top, htop⟩ : ∃ top, topF p j = top := ⟨_, rfl⟩
        rw [hoff] at E4 e2 e3 c1
        rw [hlen] at e1 e2 c2
        rw [htop] at e2 c3
        rw [htop]
        have HO := Lib.hid hoff
        have HL := Lib.hid hlen
        clear hoff hlen htop
        have d1 : ((off : Int) = 0) = False := by simp; omega
        have d2 : ((len : Int) = 0) = False := by simp; omega
        have d3 : ((off : Int) == 0) = false := by simp; omega
        have d4 : ((len : Int) == 0) = false := by simp; omega
        have d5 : ((off : Int) != (top : Int) - len) = false := by simp; omega
        have d6 : ¬ (off : Int) < 2 + 4 * twoF p 0 := by omega
        clear e1 e2 e3
        go_wp2_with (first
          | (go_at_call 78; refine (refTwo_at p _ (2 + 4 * j) _ (by omega) (by omega) (by omega)).mono ?_; rintro e w1 ⟨rfl, n1, rfl⟩; rw [HO.out])
          | (go_at_call 78; refine (refTwo_at p _ (4 + 4 * j) _ (by omega) (by omega) (by omega)).mono ?_; rintro e w2 ⟨rfl, n2, rfl⟩; rw [HL.out]))
        all_goals exact ⟨⟨j + 1, by omega, by go_num, by rw [E4.out], hx.drewN _⟩, by simp [intOf]; omega⟩
    · obtain rfl : j = k0 := by omega
      have e1 := hf.1
      have e2 := hf.2
      have d1 : (j : Int) + 1 = twoF p 0 := by omega
      clear hf hg
      go_wp2_with (first
        | (go_at_call 78; refine (refTwo_at p _ (2 + 4 * j) _ (by omega) (by omega) (by omega)).mono ?_; rintro e w1 ⟨rfl, n1, rfl⟩)
        | (go_at_call 78; refine (refTwo_at p _ (4 + 4 * j) _ (by omega) (by omega) (by omega)).mono ?_; rintro e w2 ⟨rfl, n2, rfl⟩))
      all_goals go_ret2
      all_goals exact ⟨ret_at (by omega), hx.drewN _⟩

set_option maxHeartbeats 2000000 in
theorem refWrong_byte (p : ByteArray) (w : World) (hh : headR p) (hg : goodS p (twoF p 0)) (hl : lastS p (twoF p 0) = twoF p 0) (i : Nat) (hi1 : 2 + 4 * twoF p 0 ≤ i) (hi2 : i < topF p (twoF p 0))
    (hz : ∀ j, 2 + 4 * twoF p 0 ≤ j → j < i → bt p j = 0) (hi3 : bt p i ≠ 0) :
    Calls Tryz.prog 79 #[.string p] w fun e w' => e = .returned (.tuple #[.int .i64 i, .int .i64 12]) ∧ Ext w w' := by
  obtain ⟨t1, t2⟩ := topF_in p hh.2.2 _ hg
  obtain ⟨hs, hn2, hN⟩ := hh
  have hz' : 32 ≤ p.size ∧ p.size ≤ 4096 := by simp [sizeB] at hs; omega
  obtain ⟨z1, z2⟩ := hz'
  have h3 : ¬ (p.size : Int) < 2 + 4 * twoF p 0 := by omega
  go_enter Tryz.func79, Tryz.ntmps79
  go_wp2_with (first
    | (go_at_call 17; refine (refSize_any _ _ (by omega) (by omega)).mono ?_; rintro e w1 ⟨rfl, rfl⟩; rw [hs])
    | (go_at_call 78; refine (refTwo_at p _ 0 _ (by omega) (by omega) (by omega)).mono ?_; rintro e w1 ⟨rfl, n0, rfl⟩))
  go_loopw [5, 6] (fun t k wr => ∃ j : Nat, j ≤ twoF p 0 ∧ k = .int .i64 (j + 1) ∧ t = .int .i64 (topF p j) ∧ Ext w wr) (fun _ k _ => twoF p 0 + 1 - (intOf k).toNat)
  case atStart => exact ⟨0, by omega, rfl, rfl, (Ext.refl w).drewN n0⟩
  case round =>
    obtain ⟨j, hj, rfl, rfl, hx⟩ := hrel
    by_cases hlt : j < twoF p 0
    · have c1 := twoF_lt p (2 + 4 * j)
      have c2 := twoF_lt p (4 + 4 * j)
      have c3 := topF_lt p z2 j
      have hlast : freeS p j → j + 1 ≠ twoF p 0 := fun hf h => by
        rw [← h] at hl
        simp [lastS, hf] at hl
        have := lastS_le p j
        omega
      have hsl := slot_case j (hg j hlt)
      have HS := Lib.hid hsl
      have HLAST := Lib.hid hlast
      clear hsl hlast
      rcases HS.out with ⟨e1, e2, e3⟩ | ⟨e1, e2, e3, e4⟩
      · have E3 := Lib.hid e3
        clear e3 HS
        have d1 : ¬ (j : Int) + 1 = twoF p 0 := by have := HLAST.out ⟨e1, e2⟩; omega
        go_wp2_with (first
        | (go_at_call 78; refine (refTwo_at p _ (2 + 4 * j) _ (by omega) (by omega) (by omega)).mono ?_; rintro e w1 ⟨rfl, n1, rfl⟩)
        | (go_at_call 78; refine (refTwo_at p _ (4 + 4 * j) _ (by omega) (by omega) (by omega)).mono ?_; rintro e w2 ⟨rfl, n2, rfl⟩))
        all_goals exact ⟨⟨j + 1, by omega, by go_num, by rw [E3.out], hx.drewN _⟩, by simp [intOf]; omega⟩
      · have E4 := Lib.hid e4
        clear e4 HS
        obtain ⟨off, hoff⟩ : ∃ off, twoF p (2 + 4 * j) = off := ⟨_, rfl⟩
        obtain ⟨len, hlen⟩ : ∃ len, twoF p (4 + 4 * j) = len := ⟨_, rfl⟩
        obtain ⟨top, htop⟩ : ∃ top, topF p j = top := ⟨_, rfl⟩
        rw [hoff] at E4 e2 e3 c1
        rw [hlen] at e1 e2 c2
        rw [htop] at e2 c3
        rw [htop]
        have HO := Lib.hid hoff
        have HL := Lib.hid hlen
        clear hoff hlen htop
        have d1 : ((off : Int) = 0) = False := by simp; omega
        have d2 : ((len : Int) = 0) = False := by simp; omega
        have d3 : ((off : Int) == 0) = false := by simp; omega
        have d4 : ((len : Int) == 0) = false := by simp; omega
        have d5 : ((off : Int) != (top : Int) - len) = false := by simp; omega
        have d6 : ¬ (off : Int) < 2 + 4 * twoF p 0 := by omega
        clear e1 e2 e3
        go_wp2_with (first
          | (go_at_call 78; refine (refTwo_at p _ (2 + 4 * j) _ (by omega) (by omega) (by omega)).mono ?_; rintro e w1 ⟨rfl, n1, rfl⟩; rw [HO.out])
          | (go_at_call 78; refine (refTwo_at p _ (4 + 4 * j) _ (by omega) (by omega) (by omega)).mono ?_; rintro e w2 ⟨rfl, n2, rfl⟩; rw [HL.out]))
        all_goals exact ⟨⟨j + 1, by omega, by go_num, by rw [E4.out], hx.drewN _⟩, by simp [intOf]; omega⟩
    · obtain rfl : j = twoF p 0 := by omega
      go_wp2
      go_loopw [10] (fun s w5 => ∃ k : Nat, 2 + 4 * twoF p 0 ≤ k ∧ k ≤ i ∧ s = .int .i64 k ∧ w5 = wr) (fun s _ => i - (intOf s).toNat)
      case atStart => exact ⟨2 + 4 * twoF p 0, by omega, by omega, by simp, rfl⟩
      case round =>
        obtain ⟨k, hk1, hk2, rfl, rfl⟩ := hrel
        have d1 : (k : Int) < topF p (twoF p 0) := by omega
        have d2 : (k : Int) < p.size := by omega
        by_cases hlt : k < i
        · have e1 : (((p[k]'(by omega)).toNat : Int) != 0) = false := by rw [get_bt, hz k hk1 hlt]; rfl
          go_wp2
          exact ⟨⟨k + 1, by omega, by omega, by go_num, trivial⟩, by simp [intOf]; omega⟩
        · obtain rfl : k = i := by omega
          have e1 : (((p[k]'(by omega)).toNat : Int) != 0) = true := by rw [get_bt]; simpa using hi3
          go_wp2
          go_ret2
          exact ⟨rfl, hx⟩

set_option maxHeartbeats 2000000 in
theorem refWrong_ok (p : ByteArray) (w : World) (hh : headR p) (hg : goodS p (twoF p 0)) (hl : lastS p (twoF p 0) = twoF p 0)
    (hz : ∀ j, 2 + 4 * twoF p 0 ≤ j → j < topF p (twoF p 0) → bt p j = 0) :
    Calls Tryz.prog 79 #[.string p] w fun e w' => e = .returned (.tuple #[.int .i64 p.size, .int .i64 0]) ∧ Ext w w' := by
  obtain ⟨t1, t2⟩ := topF_in p hh.2.2 _ hg
  obtain ⟨hs, hn2, hN⟩ := hh
  have hz' : 32 ≤ p.size ∧ p.size ≤ 4096 := by simp [sizeB] at hs; omega
  obtain ⟨z1, z2⟩ := hz'
  have h3 : ¬ (p.size : Int) < 2 + 4 * twoF p 0 := by omega
  go_enter Tryz.func79, Tryz.ntmps79
  go_wp2_with (first
    | (go_at_call 17; refine (refSize_any _ _ (by omega) (by omega)).mono ?_; rintro e w1 ⟨rfl, rfl⟩; rw [hs])
    | (go_at_call 78; refine (refTwo_at p _ 0 _ (by omega) (by omega) (by omega)).mono ?_; rintro e w1 ⟨rfl, n0, rfl⟩))
  go_loopw [5, 6] (fun t k wr => ∃ j : Nat, j ≤ twoF p 0 ∧ k = .int .i64 (j + 1) ∧ t = .int .i64 (topF p j) ∧ Ext w wr) (fun _ k _ => twoF p 0 + 1 - (intOf k).toNat)
  case atStart => exact ⟨0, by omega, rfl, rfl, (Ext.refl w).drewN n0⟩
  case round =>
    obtain ⟨j, hj, rfl, rfl, hx⟩ := hrel
    by_cases hlt : j < twoF p 0
    · have c1 := twoF_lt p (2 + 4 * j)
      have c2 := twoF_lt p (4 + 4 * j)
      have c3 := topF_lt p z2 j
      have hlast : freeS p j → j + 1 ≠ twoF p 0 := fun hf h => by
        rw [← h] at hl
        simp [lastS, hf] at hl
        have := lastS_le p j
        omega
      have hsl := slot_case j (hg j hlt)
      have HS := Lib.hid hsl
      have HLAST := Lib.hid hlast
      clear hsl hlast
      rcases HS.out with ⟨e1, e2, e3⟩ | ⟨e1, e2, e3, e4⟩
      · have E3 := Lib.hid e3
        clear e3 HS
        have d1 : ¬ (j : Int) + 1 = twoF p 0 := by have := HLAST.out ⟨e1, e2⟩; omega
        go_wp2_with (first
        | (go_at_call 78; refine (refTwo_at p _ (2 + 4 * j) _ (by omega) (by omega) (by omega)).mono ?_; rintro e w1 ⟨rfl, n1, rfl⟩)
        | (go_at_call 78; refine (refTwo_at p _ (4 + 4 * j) _ (by omega) (by omega) (by omega)).mono ?_; rintro e w2 ⟨rfl, n2, rfl⟩))
        all_goals exact ⟨⟨j + 1, by omega, by go_num, by rw [E3.out], hx.drewN _⟩, by simp [intOf]; omega⟩
      · have E4 := Lib.hid e4
        clear e4 HS
        obtain ⟨off, hoff⟩ : ∃ off, twoF p (2 + 4 * j) = off := ⟨_, rfl⟩
        obtain ⟨len, hlen⟩ : ∃ len, twoF p (4 + 4 * j) = len := ⟨_, rfl⟩
        obtain ⟨top, htop⟩ : ∃ top, topF p j = top := ⟨_, rfl⟩
        rw [hoff] at E4 e2 e3 c1
        rw [hlen] at e1 e2 c2
        rw [htop] at e2 c3
        rw [htop]
        have HO := Lib.hid hoff
        have HL := Lib.hid hlen
        clear hoff hlen htop
        have d1 : ((off : Int) = 0) = False := by simp; omega
        have d2 : ((len : Int) = 0) = False := by simp; omega
        have d3 : ((off : Int) == 0) = false := by simp; omega
        have d4 : ((len : Int) == 0) = false := by simp; omega
        have d5 : ((off : Int) != (top : Int) - len) = false := by simp; omega
        have d6 : ¬ (off : Int) < 2 + 4 * twoF p 0 := by omega
        clear e1 e2 e3
        go_wp2_with (first
          | (go_at_call 78; refine (refTwo_at p _ (2 + 4 * j) _ (by omega) (by omega) (by omega)).mono ?_; rintro e w1 ⟨rfl, n1, rfl⟩; rw [HO.out])
          | (go_at_call 78; refine (refTwo_at p _ (4 + 4 * j) _ (by omega) (by omega) (by omega)).mono ?_; rintro e w2 ⟨rfl, n2, rfl⟩; rw [HL.out]))
        all_goals exact ⟨⟨j + 1, by omega, by go_num, by rw [E4.out], hx.drewN _⟩, by simp [intOf]; omega⟩
    · obtain rfl : j = twoF p 0 := by omega
      go_wp2
      go_loopw [10] (fun s w5 => ∃ k : Nat, 2 + 4 * twoF p 0 ≤ k ∧ k ≤ topF p (twoF p 0) ∧ s = .int .i64 k ∧ w5 = wr) (fun s _ => topF p (twoF p 0) - (intOf s).toNat)
      case atStart => exact ⟨2 + 4 * twoF p 0, by omega, by omega, by simp, rfl⟩
      case round =>
        obtain ⟨k, hk1, hk2, rfl, rfl⟩ := hrel
        by_cases hlt : k < topF p (twoF p 0)
        · have d1 : (k : Int) < topF p (twoF p 0) := by omega
          have d2 : (k : Int) < p.size := by omega
          have e1 : (((p[k]'(by omega)).toNat : Int) != 0) = false := by rw [get_bt, hz k hk1 hlt]; rfl
          go_wp2
          exact ⟨⟨k + 1, by omega, by omega, by go_num, trivial⟩, by simp [intOf]; omega⟩
        · obtain rfl : k = topF p (twoF p 0) := by omega
          go_wp2
          go_ret2
          exact ⟨rfl, hx⟩

theorem refWrong_any (p : ByteArray) (w : World) (hp : p.size ≤ 140737488355328) :
    ∃ a e, WrongR p a e ∧ Calls Tryz.prog 79 #[.string p] w fun e' w' => e' = .returned (.tuple #[.int .i64 (a : Nat), .int .i64 (e : Nat)]) ∧ Ext w w' := by
  obtain ⟨a, e, hw, _⟩ := wrong_any p w hp
  refine ⟨a, e, hw, ?_⟩
  rcases id hw with ⟨h1, rfl, rfl⟩ | ⟨h1, h2, rfl, rfl⟩ | ⟨h1, ⟨k, hk, hg, hb, rfl⟩, rfl⟩ | ⟨h1, h2, h3, rfl, rfl⟩ | ⟨h1, h2, h3, ⟨i, g1, g2, g3, g4, rfl⟩, rfl⟩ | ⟨h1, h2, h3, h4, rfl, rfl⟩
  · exact refWrong_size p w hp h1
  · exact refWrong_head p w h1 h2
  · exact refWrong_bad p w h1 k hk hg hb
  · obtain ⟨k0, hk0⟩ : ∃ k0, k0 + 1 = twoF p 0 := ⟨twoF p 0 - 1, by omega⟩
    have hf : freeS p k0 := by
      apply Classical.byContradiction
      intro hf
      rw [← hk0] at h3
      simp [lastS, hf] at h3
    have e0 : twoF p 0 - 1 = k0 := by omega
    rw [e0]
    exact refWrong_free p w h1 k0 hk0 (fun i hi => h2 i (by omega)) hf
  · exact refWrong_byte p w h1 h2 h3 _ g1 g2 g3 g4
  · exact refWrong_ok p w h1 h2 h3 h4
end
section
open Go.RowKit
set_option linter.unusedVariables false
set_option maxRecDepth 20000

theorem refValid_any (p : ByteArray) (w : World) (hp : p.size ≤ 140737488355328) :
    Calls Tryz.prog 89 #[.string p] w fun e w' => e = .returned (.bool (decide (ValidR p))) ∧ Ext w w' := by
  obtain ⟨a, e, hw, hc⟩ := refWrong_any p w hp
  have hok := hw.ok
  go_enter Tryz.func89, Tryz.ntmps89
  go_wp2_with (go_at_call 79; refine hc.mono ?_; rintro e w1 ⟨rfl, hx⟩)
  go_ret
  refine ⟨ret_bool ?_, hx⟩
  by_cases hv : ValidR p
  · have := hok.2 hv
    subst this
    simp [hv]
  · have : ¬ e = 0 := fun h => hv (hok.1 h)
    simp [hv]
    omega

set_option maxHeartbeats 2000000 in
theorem refCellsOf_any (p : ByteArray) (w : World) (hv : ValidR p) :
    Calls Tryz.prog 64 #[.string p] w fun e w' => ∃ v, e = .returned v ∧ w'.ownsRow w.heap.size 101 2 v (usedL p (twoF p 0)).length (flatC (usedL p (twoF p 0))) ∧ Ext w w' := by
  have hz : 32 ≤ p.size ∧ p.size ≤ 4096 := by have := hv.1.1; simp [sizeB] at this; omega
  obtain ⟨z1, z2⟩ := hz
  have hN := hv.1.2.2
  have hsl := slot_le hv
  clear hv
  obtain ⟨i0, hi, hz0, hz1, hz2⟩ := info_parts Tryz.infoC
  go_enter Tryz.func64, Tryz.ntmps64
  go_wp2
  go_loopw [3, 4] (fun o k wr => ∃ j : Nat, j ≤ twoF p 0 ∧ k = .int .i64 (j + 1) ∧ wr.ownsRow w.heap.size 101 2 o (usedL p j).length (flatC (usedL p j)) ∧ Ext w wr) (fun _ k _ => twoF p 0 + 1 - (intOf k).toNat)
  case atStart => exact ⟨0, by omega, rfl, World.ownsRow_nil _ _ _ _, Ext.refl w⟩
  case round =>
    obtain ⟨j, hj, rfl, hown, hx⟩ := hrel
    by_cases hlt : j < twoF p 0
    · have hs := hsl j hlt
      have c1 := twoF_lt p (2 + 4 * j)
      have c2 := twoF_lt p (4 + 4 * j)
      have hul := usedL_length p j
      have eu : usedL p (j + 1) = if twoF p (4 + 4 * j) = 0 then usedL p j else usedL p j ++ [cellS p j] := rfl
      by_cases l0 : twoF p (4 + 4 * j) = 0
      · rw [if_pos l0] at eu
        have HE := Lib.hid eu
        clear eu
        go_wp2_with (first
          | (go_at_call 78; refine (refTwo_at p _ 0 _ (by omega) (by omega) (by omega)).mono ?_; rintro e w1 ⟨rfl, n1, rfl⟩)
          | (go_at_call 78; refine (refTwo_at p _ (2 + 4 * j) _ (by omega) (by omega) (by omega)).mono ?_; rintro e w1 ⟨rfl, n2, rfl⟩)
          | (go_at_call 78; refine (refTwo_at p _ (4 + 4 * j) _ (by omega) (by omega) (by omega)).mono ?_; rintro e w2 ⟨rfl, n3, rfl⟩))
        all_goals exact ⟨⟨j + 1, by omega, by go_num, by rw [HE.out]; exact ownsRow_ext hown ((Ext.refl _).drewN _), hx.drewN _⟩, by simp [intOf]; omega⟩
      · rw [if_neg l0] at eu
        obtain ⟨off, hoff⟩ : ∃ off, twoF p (2 + 4 * j) = off := ⟨_, rfl⟩
        obtain ⟨len, hlen⟩ : ∃ len, twoF p (4 + 4 * j) = len := ⟨_, rfl⟩
        have hcs : cellS p j = ((j : Int) + 1, p.extract off (off + len)) := by unfold cellS; rw [hoff, hlen]
        rw [hcs] at eu
        rw [hoff] at c1 hs
        rw [hlen] at c2 hs l0
        have HE := Lib.hid eu
        have HO := Lib.hid hoff
        have HL := Lib.hid hlen
        clear eu hoff hlen hcs
        have q1 : (0 : Int) ≤ off := by omega
        have q2 : (off : Int) ≤ off + len := by omega
        have q3 : (off : Int) + len ≤ p.size := by omega
        have q4 : (0 : Int) < len := by omega
        have q5 : ((off : Int) + len).toNat = off + len := by omega
        go_wp2_with (first
          | (go_at_call 78; refine (refTwo_at p _ 0 _ (by omega) (by omega) (by omega)).mono ?_; rintro e w1 ⟨rfl, n1, rfl⟩)
          | (go_at_call 78; refine (refTwo_at p _ (2 + 4 * j) _ (by omega) (by omega) (by omega)).mono ?_; rintro e w1 ⟨rfl, n2, rfl⟩; rw [HO.out])
          | (go_at_call 78; refine (refTwo_at p _ (4 + 4 * j) _ (by omega) (by omega) (by omega)).mono ?_; rintro e w2 ⟨rfl, n3, rfl⟩; rw [HL.out])
          | (refine wpList_append_own_at _ rfl (.tmp 24) (.tmp 33) 97 rfl w.heap.size 101 i0 _ 2 24 Tryz.underlying97 hi hz0 hz1 hz2 rfl (by decide) _ _ _ rfl (ownsRow_ext hown (by exact ((Ext.refl _).drewN _).alloc _)) ⟨_, 0, none⟩ 1 1 [.int .i64 (j + 1), .string (p.extract off (off + len))] rfl rfl (two_cells _ _ _ _) (by simp [Value.oneCell']) (by simp only [maxLen]; omega) (by omega) (by have := hx.size; simp [World.size_alloc]; omega) ?_
             intro v' w7 hown7 hgrow hnil hat))
        all_goals (
          have hxa := (hx.drewN (n1 + n2 + n3)).alloc (.cells #[.int .i64 (j + 1), .string (p.extract off (off + len))] 101)
          exact ⟨⟨j + 1, by omega, by go_num, by rw [HE.out, flatC_snoc, List.length_append]; exact hown7, Below.grown hxa hgrow hxa.size (fun k hk => (hown.lt k hk).1)⟩, by simp [intOf]; omega⟩)
    · obtain rfl : j = twoF p 0 := by omega
      go_wp2_with (go_at_call 78; refine (refTwo_at p _ 0 _ (by omega) (by omega) (by omega)).mono ?_; rintro e w1 ⟨rfl, n1, rfl⟩)
      go_ret
      exact ⟨_, rfl, ownsRow_ext hown ((Ext.refl _).drewN _), hx.drewN _⟩

theorem refCells_ok (p : ByteArray) (w : World) (hv : ValidR p) :
    Calls Tryz.prog 114 #[.string p] w fun e w' => ∃ A cap, e = .returned (.tuple #[.slice A (usedL p (twoF p 0)).length cap, .int .i64 0]) ∧ SlC w' A (usedL p (twoF p 0)).length (nthC (usedL p (twoF p 0))) ∧ Ext w w' := by
  have hz : 32 ≤ p.size ∧ p.size ≤ 4096 := by have := hv.1.1; simp [sizeB] at this; omega
  go_enter Tryz.func114, Tryz.ntmps114
  go_wp2_with (first
    | (go_at_call 89; refine (refValid_any p _ (by omega)).mono ?_; rintro e w1 ⟨rfl, hx1⟩; rw [decide_eq_true hv])
    | (go_at_call 64; refine (refCellsOf_any p _ hv).mono ?_; rintro e w2 ⟨v, rfl, hown, hx2⟩))
  obtain ⟨A, cap, rfl, hs⟩ := slC_of_row hown
  go_wp2
  go_ret2
  exact ⟨A, cap, rfl, hs, hx1.trans hx2⟩
theorem refCells_no (p : ByteArray) (w : World) (hp : p.size ≤ 140737488355328) (hv : ¬ ValidR p) :
    Calls Tryz.prog 114 #[.string p] w fun e w' => e = .returned (.tuple #[.slice none 0 0, .int .i64 1]) ∧ Ext w w' := by
  go_enter Tryz.func114, Tryz.ntmps114
  go_wp2_with (go_at_call 89; refine (refValid_any p _ hp).mono ?_; rintro e w1 ⟨rfl, hx1⟩; rw [decide_eq_false hv])
  go_ret2
  exact ⟨rfl, hx1⟩
end
section
open Go.RowKit
set_option linter.unusedVariables false
set_option maxRecDepth 20000

theorem fill_ok {size : Int} {n : Nat} {f : Nat → Cel} (h60 : n ≤ 200) (h : (fillRes size n f).2 = 0) :
    ¬ AnyBad f n ∧ sizeB size = true ∧ Fit size.toNat n f ∧ ((size.toNat : Nat) : Int) = size ∧ (fillRes size n f).1 = ⟨(bufF size.toNat n f n).toArray⟩ := by
  by_cases h1 : AnyBad f n
  · simp [fillRes, h1] at h
  · by_cases h2 : sizeB size = false
    · simp [fillRes, h1, h2] at h
    · by_cases h3 : roomF size f n < 0
      · simp [fillRes, h1, h2, h3] at h
      · have hs : sizeB size = true := by simpa using h2
        have hz : 32 ≤ size ∧ size ≤ 4096 := by simp [sizeB] at hs; omega
        have hc : ((size.toNat : Nat) : Int) = size := by omega
        exact ⟨h1, hs, fit_of_good h1 (by omega) (by rw [hc]; exact hs) (by rw [hc]; exact h3), hc, by simp [fillRes, h1, hs, h3]⟩
theorem range_nth (n : Nat) (f : Nat → Cel) : ((List.range n).map f).length = n ∧ ∀ i, i < n → nthC ((List.range n).map f) i = f i := by
  refine ⟨by simp, fun i hi => ?_⟩
  simp [nthC, List.getD_eq_getElem?_getD, hi]
end
section
open Go.RowKit
set_option linter.unusedVariables false
set_option maxRecDepth 20000

theorem nthC_append (l : List Cel) (c : Cel) (i : Nat) (h : i ≤ l.length) : nthC (l ++ [c]) i = if i < l.length then nthC l i else c := by
  unfold nthC
  rw [List.getD_eq_getElem?_getD, List.getD_eq_getElem?_getD]
  by_cases hi : i < l.length
  · rw [if_pos hi, List.getElem?_append_left hi]
  · obtain rfl : i = l.length := by omega
    rw [if_neg (by omega), List.getElem?_append_right (by omega)]
    simp
theorem nthC_mem (l : List Cel) (i : Nat) (h : i < l.length) : nthC l i ∈ l := by
  unfold nthC
  rw [List.getD_eq_getElem?_getD, List.getElem?_eq_getElem h]
  exact List.getElem_mem h
/-- the cells among the first k slots -/
structure UsedI (p : ByteArray) (k : Nat) : Prop where
  line : ∀ i, i < (usedL p k).length → 1 ≤ (nthC (usedL p k) i).1 ∧ (nthC (usedL p k) i).1 ≤ k ∧ 0 < (nthC (usedL p k) i).2.size
  up : ∀ i, 0 < i → i < (usedL p k).length → (nthC (usedL p k) (i - 1)).1 < (nthC (usedL p k) i).1
  sum : ∀ g : Nat → Cel, (∀ i, i < (usedL p k).length → g i = nthC (usedL p k) i) → bytesF g (usedL p k).length + topF p k = p.size
theorem bytesF_congr {f g : Nat → Cel} : ∀ n, (∀ i, i < n → f i = g i) → bytesF f n = bytesF g n := by
  intro n
  induction n with
  | zero => intro _; rfl
  | succ n ih => intro h; simp only [bytesF, ih (fun i hi => h i (by omega)), h n (by omega)]
theorem usedI {p : ByteArray} (hv : ValidR p) : ∀ k, k ≤ twoF p 0 → UsedI p k := by
  intro k
  induction k with
  | zero => exact fun _ => ⟨fun i hi => by simp [usedL] at hi, fun i _ hi => by simp [usedL] at hi, fun g _ => by simp [usedL, bytesF, topF]⟩
  | succ k ih =>
    intro hk
    have I := ih (by omega)
    have ht := topF_succ hv.1.2.2 hv.2.1 k (by omega)
    by_cases h0 : twoF p (4 + 4 * k) = 0
    · have e : usedL p (k + 1) = usedL p k := by simp [usedL, h0]
      rw [h0] at ht
      exact ⟨fun i hi => by rw [e] at hi ⊢; have := I.line i hi; omega, fun i h1 hi => by rw [e] at hi ⊢; exact I.up i h1 hi, fun g hg => by rw [e] at hg ⊢; have := I.sum g hg; omega⟩
    · have e : usedL p (k + 1) = usedL p k ++ [cellS p k] := by simp [usedL, h0]
      have hl := cellS_len hv k (by omega)
      have hc : (cellS p k).1 = (k : Int) + 1 := rfl
      have hlen : (usedL p k ++ [cellS p k]).length = (usedL p k).length + 1 := by simp
      refine ⟨fun i hi => ?_, fun i h1 hi => ?_, fun g hg => ?_⟩
      · rw [e, hlen] at hi
        rw [e, nthC_append _ _ _ (by omega)]
        split
        · rename_i h; have := I.line i h; omega
        · omega
      · rw [e, hlen] at hi
        rw [e, nthC_append _ _ _ (by omega), nthC_append _ _ _ (by omega), if_pos (show i - 1 < (usedL p k).length by omega)]
        split
        · rename_i h; exact I.up i h1 h
        · have := I.line (i - 1) (by omega); omega
      · rw [e, hlen] at hg ⊢
        have h1 := I.sum g (fun i hi => by rw [hg i (by omega), nthC_append _ _ _ (by omega), if_pos hi])
        have h2 := hg (usedL p k).length (by omega)
        rw [nthC_append _ _ _ (by omega), if_neg (by omega)] at h2
        have h3 : bytesF g ((usedL p k).length + 1) = bytesF g (usedL p k).length + (g (usedL p k).length).2.size := rfl
        rw [h3, h2, hl]
        omega

/-- of a valid page: how many cells, and what they are -/
noncomputable def cnt (p : ByteArray) : Nat := (usedL p (twoF p 0)).length
noncomputable def cel (p : ByteArray) : Nat → Cel := nthC (usedL p (twoF p 0))
theorem cel_good {p : ByteArray} (hv : ValidR p) : ¬ AnyBad (cel p) (cnt p) := by
  have I := usedI hv _ (Nat.le_refl _)
  rintro ⟨i, hi, hb⟩
  have h1 := I.line i hi
  have h2 := hv.1.2.1
  unfold BadF at hb
  rcases hb with h | h | ⟨h, h'⟩ | h
  · unfold cel at h; omega
  · unfold cel at h; omega
  · have := I.up i h hi; unfold cel at h'; omega
  · unfold cel at h; omega
theorem cnt_le {p : ByteArray} (hv : ValidR p) : cnt p ≤ 200 := Nat.le_trans (usedL_length p _) hv.1.2.1
theorem cel_last {p : ByteArray} (hv : ValidR p) : lastF (cel p) (cnt p) = twoF p 0 := by
  unfold lastF cnt cel
  cases hm : twoF p 0 with
  | zero => simp [usedL]
  | succ m =>
    have h1 := used_last hv m hm
    have e : usedL p (m + 1) = usedL p m ++ [cellS p m] := by simp [usedL, h1]
    rw [e]
    have hlen : (usedL p m ++ [cellS p m]).length = (usedL p m).length + 1 := by simp
    rw [hlen, if_neg (by omega), Nat.add_sub_cancel, nthC_append _ _ _ (Nat.le_refl _), if_neg (by omega)]
    rfl
theorem cel_sum {p : ByteArray} (hv : ValidR p) : bytesF (cel p) (cnt p) + topF p (twoF p 0) = p.size := (usedI hv _ (Nat.le_refl _)).sum _ (fun i hi => rfl)
theorem cel_room {p : ByteArray} (hv : ValidR p) : roomF p.size (cel p) (cnt p) = topF p (twoF p 0) - 2 - 4 * twoF p 0 := by
  have h1 := cel_last hv
  have h2 := cel_sum hv
  unfold roomF
  rw [h1]
  omega
/-- **Fill of the cells is the page.** -/
theorem fill_cells {p : ByteArray} (hv : ValidR p) : fillRes p.size (cnt p) (cel p) = (p, 0) := by
  have hg := cel_good hv
  have hs := hv.1.1
  have hr := cel_room hv
  have ht := topF_in p hv.1.2.2 _ hv.2.1
  have hr' : ¬ roomF p.size (cel p) (cnt p) < 0 := by omega
  have hf := fit_of_good hg (cnt_le hv) hs hr'
  obtain ⟨b1, b2, b3⟩ := built_page p.size (cnt p) (cel p) hg hf hs _ rfl
  have hu : usedL p (twoF p 0) = (List.range (cnt p)).map (cel p) := by
    apply List.ext_getElem
    · simp [cnt]
    · intro i h1 h2
      simp only [List.getElem_map, List.getElem_range, cel, nthC, List.getD_eq_getElem?_getD, List.getElem?_eq_getElem h1, Option.getD_some]
  have := page_unique b2 hv b1 (b3.trans hu.symm)
  simp only [fillRes, hg, hr', hs, if_false, Int.toNat_natCast]
  simp [this]
end
section
open Go.RowKit
set_option linter.unusedVariables false
set_option maxRecDepth 20000

theorem sizes_of {p : ByteArray} (hv : ValidR p) : 32 ≤ p.size ∧ p.size ≤ 4096 := by have := hv.1.1; simp [sizeB] at this; omega
theorem cel_size {p : ByteArray} (hv : ValidR p) : ∀ i, i < cnt p → (cel p i).2.size ≤ 140737488355328 := fun i hi => by
  have h1 := cel_sum hv
  have h2 := bytesF_mono (cel p) (show i + 1 ≤ cnt p by omega)
  have h3 : bytesF (cel p) (i + 1) = bytesF (cel p) i + (cel p i).2.size := rfl
  have := sizes_of hv
  omega
theorem cells_of (p : ByteArray) (w : World) (hv : ValidR p) :
    Calls Tryz.prog 92 #[.string p] w fun e w' => ∃ A cap, e = .returned (.slice A (cnt p) cap) ∧ SlC w' A (cnt p) (cel p) ∧ Ext w w' := cells_any p w hv
theorem refCells_of (p : ByteArray) (w : World) (hv : ValidR p) :
    Calls Tryz.prog 114 #[.string p] w fun e w' => ∃ A cap, e = .returned (.tuple #[.slice A (cnt p) cap, .int .i64 0]) ∧ SlC w' A (cnt p) (cel p) ∧ Ext w w' := refCells_ok p w hv

theorem quantities_any (w : World) :
    Calls Tryz.prog 125 #[] w fun e w' => e = .returned (.agg #[.func (.func 132) #[] #[], .func (.func 133) #[] #[]]) ∧ Ext w w' := by
  go_enter Tryz.func125, Tryz.ntmps125
  go_wp2
  exact bodyPost_ret (v := .agg #[.func (.func 132) #[] #[], .func (.func 133) #[] #[]]) (by simp [results, Tryz.results125, go_sem]) rfl ⟨rfl, (Ext.refl w).alloc _⟩
theorem quantity1_any (size : Int) (A : Option Addr) (cap n : Nat) (f : Nat → Cel) (w : World) (hz0 : 0 ≤ size) (hz1 : size ≤ 4096) (hn : n ≤ 200) (hs : SlC w A n f) (hsz : ∀ i, i < n → (f i).2.size ≤ 140737488355328) (hl0 : -4096 ≤ lastF f n) (hl1 : lastF f n ≤ 4096) :
    Calls Tryz.prog 132 #[.int .i64 size, .slice A n cap] w fun e w' => e = .returned (.int .i64 (roomF size f n)) ∧ Ext w w' := by
  have hb := bytesF_le f n hsz
  have hmul : n * 140737488355328 ≤ 200 * 140737488355328 := Nat.mul_le_mul_right _ (by omega)
  have hr : needsF f n = 2 + 4 * lastF f n + bytesF f n := rfl
  go_enter Tryz.func132, Tryz.ntmps132
  go_wp2_with (go_at_call 121; refine (needs_any A cap n f _ hn hs hsz hl0 hl1).mono ?_; rintro e w1 ⟨rfl, hx1⟩)
  go_ret
  exact ⟨ret_int (by unfold roomF; omega), hx1⟩

def quantV : Value := .agg #[.func (.func 132) #[] #[], .func (.func 133) #[] #[]]
theorem index0 (w : World) : (Instr.index 149 (.agg #[.func (.func 132) #[] #[], .func (.func 133) #[] #[]]) (.int .i64 0)).run Tryz.prog w = .ok (.func (.func 132) #[] #[]) w := by kernel_rfl
theorem index1 (w : World) : (Instr.index 149 (.agg #[.func (.func 132) #[] #[], .func (.func 133) #[] #[]]) (.int .i64 1)).run Tryz.prog w = .ok (.func (.func 133) #[] #[]) w := by kernel_rfl
theorem free_ok (p : ByteArray) (w : World) (hv : ValidR p) :
    Calls Tryz.prog 111 #[.string p] w fun e w' => e = .returned (.tuple #[.int .i64 (roomF p.size (cel p) (cnt p)), .int .i64 0]) ∧ Ext w w' := by
  obtain ⟨z1, z2⟩ := sizes_of hv
  have hl := cel_last hv
  have hl0 : -4096 ≤ lastF (cel p) (cnt p) := by rw [hl]; omega
  have hl1 : lastF (cel p) (cnt p) ≤ 4096 := by rw [hl]; have := hv.1.2.1; omega
  have hC := fun W => cells_of p W hv
  have hS := cel_size hv
  have hn := cnt_le hv
  clear hl
  generalize cnt p = n at *
  generalize cel p = f at *
  have hix := index0
  go_enter Tryz.func111, Tryz.ntmps111
  go_wp2_with (first
    | (go_at_call 87; refine (valid_any p _ (by omega)).mono ?_; rintro e w1 ⟨rfl, hx1⟩; rw [decide_eq_true hv])
    | (go_at_call 125; refine (quantities_any _).mono ?_; rintro e w2 ⟨rfl, hx2⟩)
    | (go_at_call 92; refine (hC _).mono ?_; rintro e w3 ⟨A, cap, rfl, hs, hx3⟩)
    | (go_at_call 132; refine (quantity1_any p.size A cap n f _ (by omega) (by omega) hn hs hS hl0 hl1).mono ?_; rintro e w4 ⟨rfl, hx4⟩))
  go_ret2
  exact ⟨rfl, ((hx1.trans hx2).trans hx3).trans hx4⟩
theorem free_no (p : ByteArray) (w : World) (hp : p.size ≤ 140737488355328) (hv : ¬ ValidR p) :
    Calls Tryz.prog 111 #[.string p] w fun e w' => e = .returned (.tuple #[.int .i64 0, .int .i64 1]) ∧ Ext w w' := by
  go_enter Tryz.func111, Tryz.ntmps111
  go_wp2_with (go_at_call 87; refine (valid_any p _ hp).mono ?_; rintro e w1 ⟨rfl, hx1⟩; rw [decide_eq_false hv])
  go_ret2
  exact ⟨rfl, hx1⟩
end
end Go.Proofs.YtnileonlabpbpaaGreat
