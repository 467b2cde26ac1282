/- Rings: the place of a key among sorted links (a binary search). -/
import Derived.Test.YtpobjheodlkkiaaGreatDoorChD
namespace Go.Proofs.YtpobjheodlkkiaaGreatDoor
open Go.RowKit
set_option linter.unusedVariables false
set_option maxRecDepth 20000
set_option linter.unusedSimpArgs false
set_option linter.unusedSectionVars false
set_option maxRecDepth 20000
attribute [local go_sem] Oper.semAt_some

theorem half_in (a b : Nat) (h : a + b ≤ 1000000) : wrap64 (IntKind.u64.wrap (wrap64 ((a : Int) + b)) / 2) = (((a + b) / 2 : Nat) : Int) := by
  rw [IntWalk.wrap64_in ((a : Int) + b) ⟨by omega, by omega⟩]
  have : IntKind.u64.wrap ((a : Int) + b) = (a : Int) + b := by
    simp [IntKind.wrap, IntKind.signed, IntKind.bits]
    omega
  rw [this]
  rw [IntWalk.wrap64_in _ ⟨by omega, by omega⟩]
  omega
def keyOk (l : List Lk) : Prop := ∀ i, i < l.length → 1 ≤ (nthL l i).1 ∧ (nthL l i).1 ≤ 1000000
set_option maxHeartbeats 4000000 in
theorem bs_yes (P : Option Addr) (cap : Nat) (l : List Lk) (p : Nat) (w : World) (h : SlL w P cap l) (hn : l.length ≤ 100000) (hg : ∀ i, i < l.length → good1 l i = true) (hp : p < l.length) :
    Calls Tryz.prog 58 #[.slice P l.length cap, .int .i64 (nthL l p).1, .func (.func 59) #[] #[]] w fun e w' => e = .returned (.tuple #[.int .i64 p, .bool true]) ∧ Ext w w' := by
  have hlen := h.len
  have hkey : keyOk l := fun i hi => by
    have := keyB_of (hg i hi)
    exact of_decide_eq_true this
  have hkp := hkey p hp
  have HS := Lib.hid (fun i j hij hj => @sorted_of l hg i j hij hj)
  have HP := Lib.hid hp
  generalize hk : (nthL l p).1 = k at *
  have HK := Lib.hid hk
  clear hk hg
  go_enter Tryz.func58, Tryz.ntmps58
  go_wp2
  go_loopw [9, 10, 11] (fun i j _ wr => ∃ a b : Nat, i = .int .i64 a ∧ j = .int .i64 b ∧ a ≤ p ∧ p ≤ b ∧ b ≤ l.length ∧ Ext w wr) (fun i j _ _ => (intOf j).toNat - (intOf i).toNat)
  case atStart => exact ⟨0, l.length, rfl, rfl, by omega, by omega, by omega, Ext.refl w⟩
  case round =>
    obtain ⟨a, b, rfl, rfl, h1, h2, h3, hx⟩ := hrel
    by_cases hab : a < b
    · have c1 : (a : Int) < b := by omega
      have e1 := half_in a b (by omega)
      have e2 : ((a : Int) + b) / 2 = (((a + b) / 2 : Nat) : Int) := by omega
      have hm1 : a ≤ (a + b) / 2 := by omega
      have hm2 : (a + b) / 2 < b := by omega
      generalize (a + b) / 2 = m at *
      have hml : m < l.length := by omega
      obtain ⟨bb, off, hP, g0, g1, g2, g3⟩ := h.lkAt m hml
      subst hP
      have g0 := hx.cell g0
      have g1 := hx.cell g1
      have g2 := hx.cell g2
      have g3 := hx.cell g3
      have c2 : (m : Int) < l.length := by omega
      have hkm := hkey m hml
      have hF := fun W => findf_any (nthL l m) k W
      rw [IntWalk.wrap64_in ((nthL l m).1 - k) ⟨by omega, by omega⟩] at hF
      unfold Lk.v at hF
      have d1 : IntKind.i64.wrap ((m : Int) + 1) = (m : Int) + 1 := IntWalk.i64_in _ ⟨by omega, by omega⟩
      by_cases hlt : (nthL l m).1 - k < 0
      · have hmp : m < p := by
          rcases Nat.lt_or_ge m p with h | h
          · exact h
          · exfalso
            have hK := HK.out
            by_cases e : m = p
            · rw [e, hK] at hlt; omega
            · have := HS.out p m (by omega) hml
              omega
        generalize nthL l m = x at *
        clear hkey
        go_wp2_with (go_at_call 59; refine (hF _).mono ?_; rintro e w1 ⟨rfl, hx1⟩)
        go_roundw
        case rel => exact ⟨m + 1, b, by go_num, rfl, by omega, by omega, by omega, hx.trans hx1⟩
        case measure => simp [intOf]; omega
      · have hmp : p ≤ m := by
          rcases Nat.lt_or_ge m p with h | h
          · exfalso
            have hK := HK.out
            have := HS.out m p h HP.out
            omega
          · exact h
        have hlt' : decide ((nthL l m).1 - k < 0) = false := decide_eq_false hlt
        generalize nthL l m = x at *
        clear hkey hlt
        go_wp2_with (go_at_call 59; refine (hF _).mono ?_; rintro e w1 ⟨rfl, hx1⟩)
        go_roundw
        case rel => exact ⟨a, m, rfl, rfl, by omega, by omega, by omega, hx.trans hx1⟩
        case measure => simp [intOf]; omega
    · obtain rfl : a = p := by omega
      obtain rfl : b = a := by omega
      have hbl := HP.out
      obtain ⟨bb, off, hP, g0, g1, g2, g3⟩ := h.lkAt b hbl
      subst hP
      have g0 := hx.cell g0
      have g1 := hx.cell g1
      have g2 := hx.cell g2
      have g3 := hx.cell g3
      have c2 : (b : Int) < l.length := by omega
      have hF := fun W => findf_any (nthL l b) k W
      rw [HK.out, Int.sub_self] at hF
      rw [IntWalk.wrap64_in 0 ⟨by omega, by omega⟩] at hF
      unfold Lk.v at hF
      generalize nthL l b = x at *
      clear hkey
      go_wp2_with (go_at_call 59; refine (hF _).mono ?_; rintro e w1 ⟨rfl, hx1⟩)
      go_ret2
      exact ⟨rfl, hx.trans hx1⟩
theorem wrap_ne {a k : Int} (ha : 1 ≤ a ∧ a ≤ 1000000) (hk : -9223372036854775808 ≤ k ∧ k ≤ 9223372036854775807) (hne : a ≠ k) : wrap64 (a - k) ≠ 0 := by
  unfold wrap64
  omega
set_option maxHeartbeats 4000000 in
theorem bs_no (P : Option Addr) (cap : Nat) (l : List Lk) (k : Int) (w : World) (h : SlL w P cap l) (hn : l.length ≤ 100000) (hkey : keyOk l) (hk : -9223372036854775808 ≤ k ∧ k ≤ 9223372036854775807) (hno : ∀ i, i < l.length → (nthL l i).1 ≠ k) :
    Calls Tryz.prog 58 #[.slice P l.length cap, .int .i64 k, .func (.func 59) #[] #[]] w fun e w' => (∃ i : Int, e = .returned (.tuple #[.int .i64 i, .bool false])) ∧ Ext w w' := by
  have hlen := h.len
  go_enter Tryz.func58, Tryz.ntmps58
  go_wp2
  go_loopw [9, 10, 11] (fun i j _ wr => ∃ a b : Nat, i = .int .i64 a ∧ j = .int .i64 b ∧ a ≤ b ∧ b ≤ l.length ∧ Ext w wr) (fun i j _ _ => (intOf j).toNat - (intOf i).toNat)
  case atStart => exact ⟨0, l.length, rfl, rfl, by omega, by omega, Ext.refl w⟩
  case round =>
    obtain ⟨a, b, rfl, rfl, h1, h3, hx⟩ := hrel
    by_cases hab : a < b
    · have c1 : (a : Int) < b := by omega
      have e1 := half_in a b (by omega)
      have e2 : ((a : Int) + b) / 2 = (((a + b) / 2 : Nat) : Int) := by omega
      have hm1 : a ≤ (a + b) / 2 := by omega
      have hm2 : (a + b) / 2 < b := by omega
      generalize (a + b) / 2 = m at *
      have hml : m < l.length := by omega
      obtain ⟨bb, off, hP, g0, g1, g2, g3⟩ := h.lkAt m hml
      subst hP
      have g0 := hx.cell g0
      have g1 := hx.cell g1
      have g2 := hx.cell g2
      have g3 := hx.cell g3
      have c2 : (m : Int) < l.length := by omega
      have hF := fun W => findf_any (nthL l m) k W
      unfold Lk.v at hF
      have d1 : IntKind.i64.wrap ((m : Int) + 1) = (m : Int) + 1 := IntWalk.i64_in _ ⟨by omega, by omega⟩
      generalize wrap64 ((nthL l m).1 - k) = z at *
      by_cases hlt : z < 0
      · generalize nthL l m = x at *
        clear hkey hno
        go_wp2_with (go_at_call 59; refine (hF _).mono ?_; rintro e w1 ⟨rfl, hx1⟩)
        go_roundw
        case rel => exact ⟨m + 1, b, by go_num, rfl, by omega, by omega, hx.trans hx1⟩
        case measure => simp [intOf]; omega
      · have hlt' : decide (z < 0) = false := decide_eq_false hlt
        generalize nthL l m = x at *
        clear hkey hno hlt
        go_wp2_with (go_at_call 59; refine (hF _).mono ?_; rintro e w1 ⟨rfl, hx1⟩)
        go_roundw
        case rel => exact ⟨a, m, rfl, rfl, by omega, by omega, hx.trans hx1⟩
        case measure => simp [intOf]; omega
    · obtain rfl : a = b := by omega
      by_cases hbl : a < l.length
      · obtain ⟨bb, off, hP, g0, g1, g2, g3⟩ := h.lkAt a hbl
        subst hP
        have g0 := hx.cell g0
        have g1 := hx.cell g1
        have g2 := hx.cell g2
        have g3 := hx.cell g3
        have c2 : (a : Int) < l.length := by omega
        have hF := fun W => findf_any (nthL l a) k W
        unfold Lk.v at hF
        have hz := wrap_ne (hkey a hbl) hk (hno a hbl)
        generalize wrap64 ((nthL l a).1 - k) = z at *
        have hz' : (z == 0) = false := by simpa using hz
        generalize nthL l a = x at *
        clear hkey hno hz hab
        go_wp2_with (go_at_call 59; refine (hF _).mono ?_; rintro e w1 ⟨rfl, hx1⟩)
        go_ret2
        exact ⟨⟨_, rfl⟩, hx.trans hx1⟩
      · obtain rfl : a = l.length := by omega
        clear hkey hno hab hbl
        go_wp2
        go_ret2
        exact ⟨⟨_, rfl⟩, hx⟩
theorem find_yes (P : Option Addr) (cap : Nat) (l : List Lk) (p : Nat) (w : World) (h : SlL w P cap l) (hn : l.length ≤ 100000) (hg : ∀ i, i < l.length → good1 l i = true) (hp : p < l.length) :
    Calls Tryz.prog 39 #[.slice P l.length cap, .int .i64 (nthL l p).1] w fun e w' => e = .returned (.tuple #[.int .i64 p, .bool true]) ∧ Ext w w' := by
  have hB := bs_yes P cap l p w h hn hg hp
  generalize (nthL l p).1 = k at *
  clear hg
  go_enter Tryz.func39, Tryz.ntmps39
  go_wp2_with (go_at_call 58; refine hB.mono ?_; rintro e w1 ⟨rfl, hx1⟩)
  go_ret2
  exact ⟨rfl, hx1⟩
theorem find_no (P : Option Addr) (cap : Nat) (l : List Lk) (k : Int) (w : World) (h : SlL w P cap l) (hn : l.length ≤ 100000) (hkey : keyOk l) (hk : -9223372036854775808 ≤ k ∧ k ≤ 9223372036854775807) (hno : ∀ i, i < l.length → (nthL l i).1 ≠ k) :
    Calls Tryz.prog 39 #[.slice P l.length cap, .int .i64 k] w fun e w' => (∃ i : Int, e = .returned (.tuple #[.int .i64 i, .bool false])) ∧ Ext w w' := by
  have hB := bs_no P cap l k w h hn hkey hk hno
  clear hno hkey
  go_enter Tryz.func39, Tryz.ntmps39
  go_wp2_with (go_at_call 58; refine hB.mono ?_; rintro e w1 ⟨⟨i, rfl⟩, hx1⟩)
  go_ret2
  exact ⟨⟨_, rfl⟩, hx1⟩
/-- the place of a key, or some place and 'no' -/
theorem find_any (P : Option Addr) (cap : Nat) (l : List Lk) (k : Int) (w : World) (h : SlL w P cap l) (hn : l.length ≤ 100000) (hg : ∀ i, i < l.length → good1 l i = true) (hk : -9223372036854775808 ≤ k ∧ k ≤ 9223372036854775807) :
    Calls Tryz.prog 39 #[.slice P l.length cap, .int .i64 k] w fun e w' => (∃ i : Int, e = .returned (.tuple #[.int .i64 i, .bool (decide (0 ≤ idxI (ks l) k))]) ∧ (0 ≤ idxI (ks l) k → i = idxI (ks l) k)) ∧ Ext w w' := by
  by_cases h0 : 0 ≤ idxI (ks l) k
  · have h1 := (idxI_ge (ks l) k).2
    rw [ks_len] at h1
    have h2 : (idxI (ks l) k).toNat < l.length := by omega
    have h3 : (nthL l (idxI (ks l) k).toNat).1 = k := by rw [← ks_at h2]; exact idxI_val _ _ h0
    have := find_yes P cap l _ w h hn hg h2
    rw [h3] at this
    refine this.mono ?_
    rintro e w' ⟨rfl, hx⟩
    rw [decide_eq_true h0]
    exact ⟨⟨_, rfl, fun _ => by omega⟩, hx⟩
  · rw [decide_eq_false h0]
    refine (find_no P cap l k w h hn (fun i hi => of_decide_eq_true (keyB_of (hg i hi))) hk (fun i hi e => h0 ?_)).mono ?_
    · rw [idxI_mem, ← e, ← ks_at hi]
      exact nthI_mem (by rw [ks_len]; exact hi)
    · rintro e w' ⟨⟨i, rfl⟩, hx⟩
      exact ⟨⟨i, rfl, fun h => absurd h h0⟩, hx⟩
end Go.Proofs.YtpobjheodlkkiaaGreatDoor
