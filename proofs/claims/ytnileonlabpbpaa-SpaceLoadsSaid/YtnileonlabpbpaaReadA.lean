/- The reference's Wrong, Valid, CellsOf and Cells. -/
import Derived.Test.YtnileonlabpbpaaLawA
namespace Go.Proofs.Ytnileonlabpbpaa
open Go.RowKit
set_option linter.unusedVariables false
set_option maxRecDepth 20000

theorem WrongR.uniq {p : ByteArray} {a e b g : Nat} (h : WrongR p a e) (k : WrongR p b g) : a = b ∧ e = g := by
  rcases h with ⟨h1, ha, he⟩ | ⟨h1, h2, ha, he⟩ | ⟨h1, ⟨i, hi, hg, hb, ha⟩, he⟩ | ⟨h1, h2, h3, ha, he⟩ | ⟨h1, h2, h3, ⟨i, g1, g2, g3, g4, ha⟩, he⟩ | ⟨h1, h2, h3, h4, ha, he⟩ <;>
  rcases k with ⟨k1, ka, ke⟩ | ⟨k1, k2, ka, ke⟩ | ⟨k1, ⟨j, kj, kg, kb, ka⟩, ke⟩ | ⟨k1, k2, k3, ka, ke⟩ | ⟨k1, k2, k3, ⟨j, r1, r2, r3, r4, ka⟩, ke⟩ | ⟨k1, k2, k3, k4, ka, ke⟩
  all_goals first
    | exact ⟨by omega, by omega⟩
    | exact absurd (h1.symm.trans k1) (by decide)
    | exact absurd (h1.symm.trans k1.1) (by decide)
    | exact absurd (k1.symm.trans h1.1) (by decide)
    | exact absurd k1.2 h2
    | exact absurd h1.2 k2
    | (have := good_bad hg hb kg kb; subst this; exact ⟨by omega, by omega⟩)
    | exact absurd hb (k2 i hi)
    | exact absurd kb (h2 j kj)
    | exact absurd (h4 j r1 r2) r4
    | exact absurd (k4 i g1 g2) g4
    | (have hij : i = j := by
        rcases Nat.lt_trichotomy i j with h | h | h
        · exact absurd (r3 i g1 h) g4
        · exact h
        · exact absurd (g3 j r1 h) r4
       subst hij
       exact ⟨by omega, by omega⟩)

theorem refTwo_at (p : ByteArray) (x : Int) (i : Nat) (w : World) (hx : x = i) (hp : p.size ≤ 140737488355328) (hi : i + 1 < p.size) :
    Calls Try.prog 18 #[.string p, .int .i64 x] w fun e w' => e = .returned (.int .i64 (twoF p i)) ∧ ∃ n, w' = w.drewN n := by
  subst hx
  exact refTwo2_any p i w hp hi

theorem refWrong_size (p : ByteArray) (w : World) (hp : p.size ≤ 140737488355328) (hs : sizeB p.size = false) :
    Calls Try.prog 20 #[.string p] w fun e w' => e = .returned (.tuple #[.int .i64 0, .int .i64 11]) ∧ Ext w w' := by
  go_enter Try.func20, Try.ntmps20
  go_wp2_with (go_at_call 19; refine (refSize_any _ _ (by omega) (by omega)).mono ?_; rintro e w1 ⟨rfl, rfl⟩; rw [hs])
  go_ret2
  exact ⟨rfl, Ext.refl _⟩
theorem refWrong_head (p : ByteArray) (w : World) (hs : sizeB p.size = true) (hn : ¬ (twoF p 0 ≤ 200 ∧ 2 + 4 * twoF p 0 ≤ p.size)) :
    Calls Try.prog 20 #[.string p] w fun e w' => e = .returned (.tuple #[.int .i64 0, .int .i64 12]) ∧ Ext w w' := by
  have hz : 32 ≤ p.size ∧ p.size ≤ 4096 := by simp [sizeB] at hs; omega
  obtain ⟨z1, z2⟩ := hz
  have hb : twoF p 0 < 65536 := by have := bt_lt p 0; have := bt_lt p (0 + 1); unfold twoF; omega
  by_cases h2 : 200 < twoF p 0
  · go_enter Try.func20, Try.ntmps20
    go_wp2_with (first
      | (go_at_call 19; refine (refSize_any _ _ (by omega) (by omega)).mono ?_; rintro e w1 ⟨rfl, rfl⟩; rw [hs])
      | (go_at_call 18; refine (refTwo_at p _ 0 _ (by omega) (by omega) (by omega)).mono ?_; rintro e w1 ⟨rfl, n0, rfl⟩))
    go_ret2
    exact ⟨rfl, (Ext.refl _).drewN _⟩
  · have h3 : (p.size : Int) < 2 + 4 * twoF p 0 := by omega
    go_enter Try.func20, Try.ntmps20
    go_wp2_with (first
      | (go_at_call 19; refine (refSize_any _ _ (by omega) (by omega)).mono ?_; rintro e w1 ⟨rfl, rfl⟩; rw [hs])
      | (go_at_call 18; refine (refTwo_at p _ 0 _ (by omega) (by omega) (by omega)).mono ?_; rintro e w1 ⟨rfl, n0, rfl⟩))
    go_ret2
    exact ⟨rfl, (Ext.refl _).drewN _⟩

theorem ret_at {a b : Int} (h : a = b) : Ending.returned (.tuple #[.int .i64 a, .int .i64 12]) = .returned (.tuple #[.int .i64 b, .int .i64 12]) := by rw [h]
theorem slot_case {p : ByteArray} (j : Nat) (h : ¬ badS p (topF p j) j) :
    (twoF p (2 + 4 * j) = 0 ∧ twoF p (4 + 4 * j) = 0 ∧ topF p (j + 1) = topF p j) ∨
    (twoF p (4 + 4 * j) ≠ 0 ∧ twoF p (2 + 4 * j) + twoF p (4 + 4 * j) = topF p j ∧ 2 + 4 * twoF p 0 ≤ twoF p (2 + 4 * j) ∧ topF p (j + 1) = twoF p (2 + 4 * j)) := by
  by_cases hf : freeS p j
  · exact .inl ⟨hf.1, hf.2, by simp [topF, hf]⟩
  · right
    unfold badS at h
    have h' : ¬ (twoF p (4 + 4 * j) = 0 ∨ twoF p (2 + 4 * j) + twoF p (4 + 4 * j) ≠ topF p j ∨ twoF p (2 + 4 * j) < 2 + 4 * twoF p 0) := fun h'' => h ⟨hf, h''⟩
    exact ⟨by omega, by omega, by omega, by simp [topF, hf]⟩
theorem twoF_lt (p : ByteArray) (i : Nat) : twoF p i < 65536 := by have := bt_lt p i; have := bt_lt p (i + 1); unfold twoF; omega

set_option maxHeartbeats 2000000 in
theorem refWrong_bad (p : ByteArray) (w : World) (hh : headR p) (k0 : Nat) (hk0 : k0 < twoF p 0) (hg : goodS p k0) (hb : badS p (topF p k0) k0) :
    Calls Try.prog 20 #[.string p] w fun e w' => e = .returned (.tuple #[.int .i64 (2 + 4 * k0 : Nat), .int .i64 12]) ∧ Ext w w' := by
  obtain ⟨hs, hn2, hN⟩ := hh
  have hz' : 32 ≤ p.size ∧ p.size ≤ 4096 := by simp [sizeB] at hs; omega
  obtain ⟨z1, z2⟩ := hz'
  have h3 : ¬ (p.size : Int) < 2 + 4 * twoF p 0 := by omega
  go_enter Try.func20, Try.ntmps20
  go_wp2_with (first
    | (go_at_call 19; refine (refSize_any _ _ (by omega) (by omega)).mono ?_; rintro e w1 ⟨rfl, rfl⟩; rw [hs])
    | (go_at_call 18; refine (refTwo_at p _ 0 _ (by omega) (by omega) (by omega)).mono ?_; rintro e w1 ⟨rfl, n0, rfl⟩))
  go_loopw [5, 6] (fun t k wr => ∃ j : Nat, j ≤ k0 ∧ k = .int .i64 (j + 1) ∧ t = .int .i64 (topF p j) ∧ Ext w wr) (fun _ k _ => k0 + 1 - (intOf k).toNat)
  case atStart => exact ⟨0, by omega, rfl, rfl, (Ext.refl w).drewN n0⟩
  case round =>
    obtain ⟨j, hj, rfl, rfl, hx⟩ := hrel
    have c1 := twoF_lt p (2 + 4 * j)
    have c2 := twoF_lt p (4 + 4 * j)
    have c3 := topF_lt p z2 j
    by_cases hlt : j < k0
    · have hsl := slot_case j (hg j hlt)
      have HS := Lib.hid hsl
      clear hsl
      rcases HS.out with ⟨e1, e2, e3⟩ | ⟨e1, e2, e3, e4⟩
      · have E3 := Lib.hid e3
        clear e3 HS
        have d1 : ¬ (j : Int) + 1 = twoF p 0 := by omega
        go_wp2_with (first
        | (go_at_call 18; refine (refTwo_at p _ (2 + 4 * j) _ (by omega) (by omega) (by omega)).mono ?_; rintro e w1 ⟨rfl, n1, rfl⟩)
        | (go_at_call 18; refine (refTwo_at p _ (4 + 4 * j) _ (by omega) (by omega) (by omega)).mono ?_; rintro e w2 ⟨rfl, n2, rfl⟩))
        all_goals exact ⟨⟨j + 1, by omega, by go_num, by rw [E3.out], hx.drewN _⟩, by simp [intOf]; omega⟩
      · have E4 := Lib.hid e4
        clear e4 HS
        obtain ⟨off, hoff⟩ : ∃ off, twoF p (2 + 4 * j) = off := ⟨_, rfl⟩
        obtain ⟨len, hlen⟩ : ∃ len, twoF p (4 + 4 * j) = len := ⟨_, rfl⟩
        obtain ⟨top, htop⟩ : ∃ top, topF p j = top := ⟨_, rfl⟩
        rw [hoff] at E4 e2 e3 c1
        rw [hlen] at e1 e2 c2
        rw [htop] at e2 c3
        rw [htop]
        have HO := Lib.hid hoff
        have HL := Lib.hid hlen
        clear hoff hlen htop
        have d1 : ((off : Int) = 0) = False := by simp; omega
        have d2 : ((len : Int) = 0) = False := by simp; omega
        have d3 : ((off : Int) == 0) = false := by simp; omega
        have d4 : ((len : Int) == 0) = false := by simp; omega
        have d5 : ((off : Int) != (top : Int) - len) = false := by simp; omega
        have d6 : ¬ (off : Int) < 2 + 4 * twoF p 0 := by omega
        clear e1 e2 e3
        go_wp2_with (first
          | (go_at_call 18; refine (refTwo_at p _ (2 + 4 * j) _ (by omega) (by omega) (by omega)).mono ?_; rintro e w1 ⟨rfl, n1, rfl⟩; rw [HO.out])
          | (go_at_call 18; refine (refTwo_at p _ (4 + 4 * j) _ (by omega) (by omega) (by omega)).mono ?_; rintro e w2 ⟨rfl, n2, rfl⟩; rw [HL.out]))
        all_goals exact ⟨⟨j + 1, by omega, by go_num, by rw [E4.out], hx.drewN _⟩, by simp [intOf]; omega⟩
    · obtain rfl : j = k0 := by omega
      unfold badS freeS at hb
      obtain ⟨off, hoff⟩ : ∃ off, twoF p (2 + 4 * j) = off := ⟨_, rfl⟩
      obtain ⟨len, hlen⟩ : ∃ len, twoF p (4 + 4 * j) = len := ⟨_, rfl⟩
      obtain ⟨top, htop⟩ : ∃ top, topF p j = top := ⟨_, rfl⟩
      rw [hoff, hlen, htop] at hb
      rw [hoff] at c1
      rw [hlen] at c2
      rw [htop] at c3
      rw [htop]
      have HO := Lib.hid hoff
      have HL := Lib.hid hlen
      obtain ⟨b1, b2⟩ := hb
      clear hoff hlen htop hg
      by_cases l0 : len = 0
      · subst l0
        have d1 : ((off : Int) = 0) = False := by simp; omega
        have d3 : ((off : Int) == 0) = false := by simp; omega
        clear b1 b2
        go_wp2_with (first
          | (go_at_call 18; refine (refTwo_at p _ (2 + 4 * j) _ (by omega) (by omega) (by omega)).mono ?_; rintro e w1 ⟨rfl, n1, rfl⟩; rw [HO.out])
          | (go_at_call 18; refine (refTwo_at p _ (4 + 4 * j) _ (by omega) (by omega) (by omega)).mono ?_; rintro e w2 ⟨rfl, n2, rfl⟩; rw [HL.out]))
        all_goals go_ret2
        all_goals exact ⟨ret_at (by omega), hx.drewN _⟩
      · have d2 : ((len : Int) = 0) = False := by simp; omega
        have d4 : ((len : Int) == 0) = false := by simp; omega
        by_cases o0 : off = 0
        · subst o0
          clear b1 b2
          go_wp2_with (first
            | (go_at_call 18; refine (refTwo_at p _ (2 + 4 * j) _ (by omega) (by omega) (by omega)).mono ?_; rintro e w1 ⟨rfl, n1, rfl⟩; rw [HO.out])
            | (go_at_call 18; refine (refTwo_at p _ (4 + 4 * j) _ (by omega) (by omega) (by omega)).mono ?_; rintro e w2 ⟨rfl, n2, rfl⟩; rw [HL.out]))
          all_goals go_ret2
          all_goals exact ⟨ret_at (by omega), hx.drewN _⟩
        · have d1 : ((off : Int) = 0) = False := by simp; omega
          have d3 : ((off : Int) == 0) = false := by simp; omega
          by_cases t0 : off + len = top
          · have d5 : ((off : Int) != (top : Int) - len) = false := by simp; omega
            have d6 : (off : Int) < 2 + 4 * twoF p 0 := by omega
            clear b1 b2 t0
            go_wp2_with (first
              | (go_at_call 18; refine (refTwo_at p _ (2 + 4 * j) _ (by omega) (by omega) (by omega)).mono ?_; rintro e w1 ⟨rfl, n1, rfl⟩; rw [HO.out])
              | (go_at_call 18; refine (refTwo_at p _ (4 + 4 * j) _ (by omega) (by omega) (by omega)).mono ?_; rintro e w2 ⟨rfl, n2, rfl⟩; rw [HL.out]))
            all_goals go_ret2
            all_goals exact ⟨ret_at (by omega), hx.drewN _⟩
          · have d5 : ((off : Int) != (top : Int) - len) = true := by simp; omega
            clear b1 b2 t0
            go_wp2_with (first
              | (go_at_call 18; refine (refTwo_at p _ (2 + 4 * j) _ (by omega) (by omega) (by omega)).mono ?_; rintro e w1 ⟨rfl, n1, rfl⟩; rw [HO.out])
              | (go_at_call 18; refine (refTwo_at p _ (4 + 4 * j) _ (by omega) (by omega) (by omega)).mono ?_; rintro e w2 ⟨rfl, n2, rfl⟩; rw [HL.out]))
            all_goals go_ret2
            all_goals exact ⟨ret_at (by omega), hx.drewN _⟩

set_option maxHeartbeats 2000000 in
theorem refWrong_free (p : ByteArray) (w : World) (hh : headR p) (k0 : Nat) (hk0 : k0 + 1 = twoF p 0) (hg : goodS p k0) (hf : freeS p k0) :
    Calls Try.prog 20 #[.string p] w fun e w' => e = .returned (.tuple #[.int .i64 (2 + 4 * k0 : Nat), .int .i64 12]) ∧ Ext w w' := by
  obtain ⟨hs, hn2, hN⟩ := hh
  have hz' : 32 ≤ p.size ∧ p.size ≤ 4096 := by simp [sizeB] at hs; omega
  obtain ⟨z1, z2⟩ := hz'
  have h3 : ¬ (p.size : Int) < 2 + 4 * twoF p 0 := by omega
  go_enter Try.func20, Try.ntmps20
  go_wp2_with (first
    | (go_at_call 19; refine (refSize_any _ _ (by omega) (by omega)).mono ?_; rintro e w1 ⟨rfl, rfl⟩; rw [hs])
    | (go_at_call 18; refine (refTwo_at p _ 0 _ (by omega) (by omega) (by omega)).mono ?_; rintro e w1 ⟨rfl, n0, rfl⟩))
  go_loopw [5, 6] (fun t k wr => ∃ j : Nat, j ≤ k0 ∧ k = .int .i64 (j + 1) ∧ t = .int .i64 (topF p j) ∧ Ext w wr) (fun _ k _ => k0 + 1 - (intOf k).toNat)
  case atStart => exact ⟨0, by omega, rfl, rfl, (Ext.refl w).drewN n0⟩
  case round =>
    obtain ⟨j, hj, rfl, rfl, hx⟩ := hrel
    have c1 := twoF_lt p (2 + 4 * j)
    have c2 := twoF_lt p (4 + 4 * j)
    have c3 := topF_lt p z2 j
    by_cases hlt : j < k0
    · have hsl := slot_case j (hg j hlt)
      have HS := Lib.hid hsl
      clear hsl
      rcases HS.out with ⟨e1, e2, e3⟩ | ⟨e1, e2, e3, e4⟩
      · have E3 := Lib.hid e3
        clear e3 HS
        have d1 : ¬ (j : Int) + 1 = twoF p 0 := by omega
        go_wp2_with (first
        | (go_at_call 18; refine (refTwo_at p _ (2 + 4 * j) _ (by omega) (by omega) (by omega)).mono ?_; rintro e w1 ⟨rfl, n1, rfl⟩)
        | (go_at_call 18; refine (refTwo_at p _ (4 + 4 * j) _ (by omega) (by omega) (by omega)).mono ?_; rintro e w2 ⟨rfl, n2, rfl⟩))
        all_goals exact ⟨⟨j + 1, by omega, by go_num, by rw [E3.out], hx.drewN _⟩, by simp [intOf]; omega⟩
      · have E4 := Lib.hid e4
        clear e4 HS
        obtain ⟨off, hoff⟩ : ∃ off, twoF p (2 + 4 * j) = off := ⟨_, rfl⟩
        obtain ⟨len, hlen⟩ : ∃ len, twoF p (4 + 4 * j) = len := ⟨_, rfl⟩
        obtain ⟨top, htop⟩ : ∃ top, topF p j = top := ⟨_, rfl⟩
        rw [hoff] at E4 e2 e3 c1
        rw [hlen] at e1 e2 c2
        rw [htop] at e2 c3
        rw [htop]
        have HO := Lib.hid hoff
        have HL := Lib.hid hlen
        clear hoff hlen htop
        have d1 : ((off : Int) = 0) = False := by simp; omega
        have d2 : ((len : Int) = 0) = False := by simp; omega
        have d3 : ((off : Int) == 0) = false := by simp; omega
        have d4 : ((len : Int) == 0) = false := by simp; omega
        have d5 : ((off : Int) != (top : Int) - len) = false := by simp; omega
        have d6 : ¬ (off : Int) < 2 + 4 * twoF p 0 := by omega
        clear e1 e2 e3
        go_wp2_with (first
          | (go_at_call 18; refine (refTwo_at p _ (2 + 4 * j) _ (by omega) (by omega) (by omega)).mono ?_; rintro e w1 ⟨rfl, n1, rfl⟩; rw [HO.out])
          | (go_at_call 18; refine (refTwo_at p _ (4 + 4 * j) _ (by omega) (by omega) (by omega)).mono ?_; rintro e w2 ⟨rfl, n2, rfl⟩; rw [HL.out]))
        all_goals exact ⟨⟨j + 1, by omega, by go_num, by rw [E4.out], hx.drewN _⟩, by simp [intOf]; omega⟩
    · obtain rfl : j = k0 := by omega
      have e1 := hf.1
      have e2 := hf.2
      have d1 : (j : Int) + 1 = twoF p 0 := by omega
      clear hf hg
      go_wp2_with (first
        | (go_at_call 18; refine (refTwo_at p _ (2 + 4 * j) _ (by omega) (by omega) (by omega)).mono ?_; rintro e w1 ⟨rfl, n1, rfl⟩)
        | (go_at_call 18; refine (refTwo_at p _ (4 + 4 * j) _ (by omega) (by omega) (by omega)).mono ?_; rintro e w2 ⟨rfl, n2, rfl⟩))
      all_goals go_ret2
      all_goals exact ⟨ret_at (by omega), hx.drewN _⟩

set_option maxHeartbeats 2000000 in
theorem refWrong_byte (p : ByteArray) (w : World) (hh : headR p) (hg : goodS p (twoF p 0)) (hl : lastS p (twoF p 0) = twoF p 0) (i : Nat) (hi1 : 2 + 4 * twoF p 0 ≤ i) (hi2 : i < topF p (twoF p 0))
    (hz : ∀ j, 2 + 4 * twoF p 0 ≤ j → j < i → bt p j = 0) (hi3 : bt p i ≠ 0) :
    Calls Try.prog 20 #[.string p] w fun e w' => e = .returned (.tuple #[.int .i64 i, .int .i64 12]) ∧ Ext w w' := by
  obtain ⟨t1, t2⟩ := topF_in p hh.2.2 _ hg
  obtain ⟨hs, hn2, hN⟩ := hh
  have hz' : 32 ≤ p.size ∧ p.size ≤ 4096 := by simp [sizeB] at hs; omega
  obtain ⟨z1, z2⟩ := hz'
  have h3 : ¬ (p.size : Int) < 2 + 4 * twoF p 0 := by omega
  go_enter Try.func20, Try.ntmps20
  go_wp2_with (first
    | (go_at_call 19; refine (refSize_any _ _ (by omega) (by omega)).mono ?_; rintro e w1 ⟨rfl, rfl⟩; rw [hs])
    | (go_at_call 18; refine (refTwo_at p _ 0 _ (by omega) (by omega) (by omega)).mono ?_; rintro e w1 ⟨rfl, n0, rfl⟩))
  go_loopw [5, 6] (fun t k wr => ∃ j : Nat, j ≤ twoF p 0 ∧ k = .int .i64 (j + 1) ∧ t = .int .i64 (topF p j) ∧ Ext w wr) (fun _ k _ => twoF p 0 + 1 - (intOf k).toNat)
  case atStart => exact ⟨0, by omega, rfl, rfl, (Ext.refl w).drewN n0⟩
  case round =>
    obtain ⟨j, hj, rfl, rfl, hx⟩ := hrel
    by_cases hlt : j < twoF p 0
    · have c1 := twoF_lt p (2 + 4 * j)
      have c2 := twoF_lt p (4 + 4 * j)
      have c3 := topF_lt p z2 j
      have hlast : freeS p j → j + 1 ≠ twoF p 0 := fun hf h => by
        rw [← h] at hl
        simp [lastS, hf] at hl
        have := lastS_le p j
        omega
      have hsl := slot_case j (hg j hlt)
      have HS := Lib.hid hsl
      have HLAST := Lib.hid hlast
      clear hsl hlast
      rcases HS.out with ⟨e1, e2, e3⟩ | ⟨e1, e2, e3, e4⟩
      · have E3 := Lib.hid e3
        clear e3 HS
        have d1 : ¬ (j : Int) + 1 = twoF p 0 := by have := HLAST.out ⟨e1, e2⟩; omega
        go_wp2_with (first
        | (go_at_call 18; refine (refTwo_at p _ (2 + 4 * j) _ (by omega) (by omega) (by omega)).mono ?_; rintro e w1 ⟨rfl, n1, rfl⟩)
        | (go_at_call 18; refine (refTwo_at p _ (4 + 4 * j) _ (by omega) (by omega) (by omega)).mono ?_; rintro e w2 ⟨rfl, n2, rfl⟩))
        all_goals exact ⟨⟨j + 1, by omega, by go_num, by rw [E3.out], hx.drewN _⟩, by simp [intOf]; omega⟩
      · have E4 := Lib.hid e4
        clear e4 HS
        obtain ⟨off, hoff⟩ : ∃ off, twoF p (2 + 4 * j) = off := ⟨_, rfl⟩
        obtain ⟨len, hlen⟩ : ∃ len, twoF p (4 + 4 * j) = len := ⟨_, rfl⟩
        obtain ⟨top, htop⟩ : ∃ top, topF p j = top := ⟨_, rfl⟩
        rw [hoff] at E4 e2 e3 c1
        rw [hlen] at e1 e2 c2
        rw [htop] at e2 c3
        rw [htop]
        have HO := Lib.hid hoff
        have HL := Lib.hid hlen
        clear hoff hlen htop
        have d1 : ((off : Int) = 0) = False := by simp; omega
        have d2 : ((len : Int) = 0) = False := by simp; omega
        have d3 : ((off : Int) == 0) = false := by simp; omega
        have d4 : ((len : Int) == 0) = false := by simp; omega
        have d5 : ((off : Int) != (top : Int) - len) = false := by simp; omega
        have d6 : ¬ (off : Int) < 2 + 4 * twoF p 0 := by omega
        clear e1 e2 e3
        go_wp2_with (first
          | (go_at_call 18; refine (refTwo_at p _ (2 + 4 * j) _ (by omega) (by omega) (by omega)).mono ?_; rintro e w1 ⟨rfl, n1, rfl⟩; rw [HO.out])
          | (go_at_call 18; refine (refTwo_at p _ (4 + 4 * j) _ (by omega) (by omega) (by omega)).mono ?_; rintro e w2 ⟨rfl, n2, rfl⟩; rw [HL.out]))
        all_goals exact ⟨⟨j + 1, by omega, by go_num, by rw [E4.out], hx.drewN _⟩, by simp [intOf]; omega⟩
    · obtain rfl : j = twoF p 0 := by omega
      go_wp2
      go_loopw [10] (fun s w5 => ∃ k : Nat, 2 + 4 * twoF p 0 ≤ k ∧ k ≤ i ∧ s = .int .i64 k ∧ w5 = wr) (fun s _ => i - (intOf s).toNat)
      case atStart => exact ⟨2 + 4 * twoF p 0, by omega, by omega, by simp, rfl⟩
      case round =>
        obtain ⟨k, hk1, hk2, rfl, rfl⟩ := hrel
        have d1 : (k : Int) < topF p (twoF p 0) := by omega
        have d2 : (k : Int) < p.size := by omega
        by_cases hlt : k < i
        · have e1 : (((p[k]'(by omega)).toNat : Int) != 0) = false := by rw [get_bt, hz k hk1 hlt]; rfl
          go_wp2
          exact ⟨⟨k + 1, by omega, by omega, by go_num, trivial⟩, by simp [intOf]; omega⟩
        · obtain rfl : k = i := by omega
          have e1 : (((p[k]'(by omega)).toNat : Int) != 0) = true := by rw [get_bt]; simpa using hi3
          go_wp2
          go_ret2
          exact ⟨rfl, hx⟩

set_option maxHeartbeats 2000000 in
theorem refWrong_ok (p : ByteArray) (w : World) (hh : headR p) (hg : goodS p (twoF p 0)) (hl : lastS p (twoF p 0) = twoF p 0)
    (hz : ∀ j, 2 + 4 * twoF p 0 ≤ j → j < topF p (twoF p 0) → bt p j = 0) :
    Calls Try.prog 20 #[.string p] w fun e w' => e = .returned (.tuple #[.int .i64 p.size, .int .i64 0]) ∧ Ext w w' := by
  obtain ⟨t1, t2⟩ := topF_in p hh.2.2 _ hg
  obtain ⟨hs, hn2, hN⟩ := hh
  have hz' : 32 ≤ p.size ∧ p.size ≤ 4096 := by simp [sizeB] at hs; omega
  obtain ⟨z1, z2⟩ := hz'
  have h3 : ¬ (p.size : Int) < 2 + 4 * twoF p 0 := by omega
  go_enter Try.func20, Try.ntmps20
  go_wp2_with (first
    | (go_at_call 19; refine (refSize_any _ _ (by omega) (by omega)).mono ?_; rintro e w1 ⟨rfl, rfl⟩; rw [hs])
    | (go_at_call 18; refine (refTwo_at p _ 0 _ (by omega) (by omega) (by omega)).mono ?_; rintro e w1 ⟨rfl, n0, rfl⟩))
  go_loopw [5, 6] (fun t k wr => ∃ j : Nat, j ≤ twoF p 0 ∧ k = .int .i64 (j + 1) ∧ t = .int .i64 (topF p j) ∧ Ext w wr) (fun _ k _ => twoF p 0 + 1 - (intOf k).toNat)
  case atStart => exact ⟨0, by omega, rfl, rfl, (Ext.refl w).drewN n0⟩
  case round =>
    obtain ⟨j, hj, rfl, rfl, hx⟩ := hrel
    by_cases hlt : j < twoF p 0
    · have c1 := twoF_lt p (2 + 4 * j)
      have c2 := twoF_lt p (4 + 4 * j)
      have c3 := topF_lt p z2 j
      have hlast : freeS p j → j + 1 ≠ twoF p 0 := fun hf h => by
        rw [← h] at hl
        simp [lastS, hf] at hl
        have := lastS_le p j
        omega
      have hsl := slot_case j (hg j hlt)
      have HS := Lib.hid hsl
      have HLAST := Lib.hid hlast
      clear hsl hlast
      rcases HS.out with ⟨e1, e2, e3⟩ | ⟨e1, e2, e3, e4⟩
      · have E3 := Lib.hid e3
        clear e3 HS
        have d1 : ¬ (j : Int) + 1 = twoF p 0 := by have := HLAST.out ⟨e1, e2⟩; omega
        go_wp2_with (first
        | (go_at_call 18; refine (refTwo_at p _ (2 + 4 * j) _ (by omega) (by omega) (by omega)).mono ?_; rintro e w1 ⟨rfl, n1, rfl⟩)
        | (go_at_call 18; refine (refTwo_at p _ (4 + 4 * j) _ (by omega) (by omega) (by omega)).mono ?_; rintro e w2 ⟨rfl, n2, rfl⟩))
        all_goals exact ⟨⟨j + 1, by omega, by go_num, by rw [E3.out], hx.drewN _⟩, by simp [intOf]; omega⟩
      · have E4 := Lib.hid e4
        clear e4 HS
        obtain ⟨off, hoff⟩ : ∃ off, twoF p (2 + 4 * j) = off := ⟨_, rfl⟩
        obtain ⟨len, hlen⟩ : ∃ len, twoF p (4 + 4 * j) = len := ⟨_, rfl⟩
        obtain ⟨top, htop⟩ : ∃ top, topF p j = top := ⟨_, rfl⟩
        rw [hoff] at E4 e2 e3 c1
        rw [hlen] at e1 e2 c2
        rw [htop] at e2 c3
        rw [htop]
        have HO := Lib.hid hoff
        have HL := Lib.hid hlen
        clear hoff hlen htop
        have d1 : ((off : Int) = 0) = False := by simp; omega
        have d2 : ((len : Int) = 0) = False := by simp; omega
        have d3 : ((off : Int) == 0) = false := by simp; omega
        have d4 : ((len : Int) == 0) = false := by simp; omega
        have d5 : ((off : Int) != (top : Int) - len) = false := by simp; omega
        have d6 : ¬ (off : Int) < 2 + 4 * twoF p 0 := by omega
        clear e1 e2 e3
        go_wp2_with (first
          | (go_at_call 18; refine (refTwo_at p _ (2 + 4 * j) _ (by omega) (by omega) (by omega)).mono ?_; rintro e w1 ⟨rfl, n1, rfl⟩; rw [HO.out])
          | (go_at_call 18; refine (refTwo_at p _ (4 + 4 * j) _ (by omega) (by omega) (by omega)).mono ?_; rintro e w2 ⟨rfl, n2, rfl⟩; rw [HL.out]))
        all_goals exact ⟨⟨j + 1, by omega, by go_num, by rw [E4.out], hx.drewN _⟩, by simp [intOf]; omega⟩
    · obtain rfl : j = twoF p 0 := by omega
      go_wp2
      go_loopw [10] (fun s w5 => ∃ k : Nat, 2 + 4 * twoF p 0 ≤ k ∧ k ≤ topF p (twoF p 0) ∧ s = .int .i64 k ∧ w5 = wr) (fun s _ => topF p (twoF p 0) - (intOf s).toNat)
      case atStart => exact ⟨2 + 4 * twoF p 0, by omega, by omega, by simp, rfl⟩
      case round =>
        obtain ⟨k, hk1, hk2, rfl, rfl⟩ := hrel
        by_cases hlt : k < topF p (twoF p 0)
        · have d1 : (k : Int) < topF p (twoF p 0) := by omega
          have d2 : (k : Int) < p.size := by omega
          have e1 : (((p[k]'(by omega)).toNat : Int) != 0) = false := by rw [get_bt, hz k hk1 hlt]; rfl
          go_wp2
          exact ⟨⟨k + 1, by omega, by omega, by go_num, trivial⟩, by simp [intOf]; omega⟩
        · obtain rfl : k = topF p (twoF p 0) := by omega
          go_wp2
          go_ret2
          exact ⟨rfl, hx⟩

theorem refWrong_any (p : ByteArray) (w : World) (hp : p.size ≤ 140737488355328) :
    ∃ a e, WrongR p a e ∧ Calls Try.prog 20 #[.string p] w fun e' w' => e' = .returned (.tuple #[.int .i64 (a : Nat), .int .i64 (e : Nat)]) ∧ Ext w w' := by
  obtain ⟨a, e, hw, _⟩ := wrong_any p w hp
  refine ⟨a, e, hw, ?_⟩
  rcases id hw with ⟨h1, rfl, rfl⟩ | ⟨h1, h2, rfl, rfl⟩ | ⟨h1, ⟨k, hk, hg, hb, rfl⟩, rfl⟩ | ⟨h1, h2, h3, rfl, rfl⟩ | ⟨h1, h2, h3, ⟨i, g1, g2, g3, g4, rfl⟩, rfl⟩ | ⟨h1, h2, h3, h4, rfl, rfl⟩
  · exact refWrong_size p w hp h1
  · exact refWrong_head p w h1 h2
  · exact refWrong_bad p w h1 k hk hg hb
  · obtain ⟨k0, hk0⟩ : ∃ k0, k0 + 1 = twoF p 0 := ⟨twoF p 0 - 1, by omega⟩
    have hf : freeS p k0 := by
      apply Classical.byContradiction
      intro hf
      rw [← hk0] at h3
      simp [lastS, hf] at h3
    have e0 : twoF p 0 - 1 = k0 := by omega
    rw [e0]
    exact refWrong_free p w h1 k0 hk0 (fun i hi => h2 i (by omega)) hf
  · exact refWrong_byte p w h1 h2 h3 _ g1 g2 g3 g4
  · exact refWrong_ok p w h1 h2 h3 h4
end Go.Proofs.Ytnileonlabpbpaa
