/- PageDamage returns true: a page of which one byte was changed is not valid, or has other cells. -/
import Derived.Test.YtfinljcembipkaaFills
import Derived.Deep.RegionLaw
namespace Go.Proofs.Ytfinljcembipkaa
open Go.RowKit
set_option linter.unusedVariables false

theorem cells_differ (L : List Cel) (n : Nat) (f : Nat → Cel) (h : L ≠ (List.range n).map f) : n ≠ L.length ∨ (L.length = n ∧ ∃ i0, i0 < n ∧ (∀ i, i < i0 → f i = nthC L i) ∧ f i0 ≠ nthC L i0) := by
  by_cases hl : L.length = n
  · right
    refine ⟨hl, ?_⟩
    obtain ⟨i0, ⟨h1, h2⟩, hmin⟩ := least_of (Q := fun i => i < n ∧ f i ≠ nthC L i) (by
      apply Classical.byContradiction
      intro hc
      apply h
      apply List.ext_getElem (by simp [hl])
      intro i h1 h2
      have h3 : i < n := by omega
      have h4 : f i = nthC L i := Classical.byContradiction fun h5 => hc ⟨i, h3, h5⟩
      simp only [List.getElem_map, List.getElem_range, h4]
      simp [nthC, List.getD_eq_getElem?_getD, List.getElem?_eq_getElem h1])
    exact ⟨i0, h1, fun i hi => Classical.byContradiction fun h5 => hmin i hi ⟨by omega, h5⟩, h2⟩
  · exact .inl (fun h => hl h.symm)

/-- a page with another byte -/
def withByte (p : ByteArray) (k : Nat) (y : UInt8) : ByteArray := p.extract 0 k ++ ⟨#[y]⟩ ++ p.extract (k + 1) p.size
theorem withByte_size (p : ByteArray) (k : Nat) (y : UInt8) (h : k < p.size) : (withByte p k y).size = p.size := by
  unfold withByte
  simp only [ByteArray.size_append, ByteArray.size_extract]
  have : (⟨#[y]⟩ : ByteArray).size = 1 := rfl
  omega
theorem withByte_at (p : ByteArray) (k : Nat) (y : UInt8) (h : k < p.size) : bt (withByte p k y) k = y.toNat := by
  have hs := withByte_size p k y h
  rw [← get_bt _ k (by omega)]
  unfold withByte
  have h1 : (p.extract 0 k).size = k := by rw [ByteArray.size_extract]; omega
  have h2 : (⟨#[y]⟩ : ByteArray).size = 1 := rfl
  rw [ByteArray.getElem_append_left (by rw [ByteArray.size_append, h1, h2]; omega), ByteArray.getElem_append_right (by omega)]
  simp only [h1, Nat.sub_self]
  rfl
theorem withByte_ne (p : ByteArray) (k : Nat) (y : UInt8) (h : k < p.size) (hy : y.toNat ≠ bt p k) : withByte p k y ≠ p := fun e => hy (by rw [← withByte_at p k y h, e])

theorem u8_xor_nat (a b : Nat) (ha : a < 256) (hb : b < 256) : bits .xor .u8 (a : Int) (b : Int) = ((a ^^^ b : Nat) : Int) := by
  have hx : a ^^^ b < 2 ^ 8 := Nat.xor_lt_two_pow (by omega) (by omega)
  have e : ∀ c : Nat, c < 256 → (BitVec.ofInt 8 (c : Int)).toNat = c := fun c hc => by
    rw [BitVec.ofInt_natCast, BitVec.toNat_ofNat]; exact Nat.mod_eq_of_lt (by omega)
  show IntKind.u8.wrap ((BitVec.ofInt 8 (a : Int) ^^^ BitVec.ofInt 8 (b : Int)).toNat : Int) = _
  rw [BitVec.toNat_xor, e a ha, e b hb]
  simp only [IntKind.wrap, IntKind.signed, IntKind.bits]
  simp only [Nat.reducePow] at hx
  simp
  omega
theorem xor_byte (x : UInt8) (c : Nat) (h1 : 1 ≤ c) (h2 : c ≤ 255) : ∃ y : UInt8, bits .xor .u8 (x.toNat : Int) (c : Int) = (y.toNat : Int) ∧ y.toNat ≠ x.toNat := by
  have hx := x.toNat_lt
  have hl : x.toNat ^^^ c < 2 ^ 8 := Nat.xor_lt_two_pow (by omega) (by omega)
  refine ⟨UInt8.ofNat (x.toNat ^^^ c), ?_, ?_⟩
  · rw [u8_xor_nat _ _ (by omega) (by omega)]
    simp only [UInt8.toNat_ofNat']
    rw [Nat.mod_eq_of_lt hl]
  · simp only [UInt8.toNat_ofNat']
    rw [Nat.mod_eq_of_lt hl]
    intro h
    have : x.toNat ^^^ (x.toNat ^^^ c) = x.toNat ^^^ x.toNat := by rw [h]
    rw [← Nat.xor_assoc, Nat.xor_self, Nat.zero_xor] at this
    omega
theorem u64_ge (x : Int) : 0 ≤ IntKind.u64.wrap x := by
  simp only [IntKind.wrap, IntKind.signed, IntKind.bits]
  exact Int.emod_nonneg _ (by decide)
set_option maxRecDepth 20000 in
set_option maxHeartbeats 4000000 in
theorem damage_any (size : Int) (A : Option Addr) (cap n : Nat) (f : Nat → Cel) (at_ by_ : Int) (w : World) (hz0 : -9223372036854775808 ≤ size) (hz1 : size ≤ 9223372036854775807) (hn : n ≤ 140737488355328) (hs : SlC w A n f) (hsz : ∀ i, i < n → (f i).2.size ≤ 140737488355328)
    (ha : -9223372036854775808 ≤ at_ ∧ at_ ≤ 9223372036854775807) (hb_ : -9223372036854775808 ≤ by_ ∧ by_ ≤ 9223372036854775807) :
    Calls Try.prog 3 #[.int .i64 size, .slice A n cap, .int .i64 at_, .int .i64 by_] w fun e w' => e = .returned (.bool true) ∧ Ext w w' := by
  cases hb : smallB n f with
  | false =>
    go_enter Try.func3, Try.ntmps3
    go_wp2_with (first
      | (go_at_call 9; refine (made_no size A cap n f _ hn hs hsz hb).mono ?_; rintro e w1 ⟨rfl, hx1⟩)
      | (go_at_call 10; refine (awake_any _).mono ?_; rintro e w2 ⟨rfl, hx2⟩))
    go_ret
    exact ⟨rfl, hx1.trans hx2⟩
  | true =>
    have h60 : n ≤ 60 := by simp [smallB] at hb; omega
    have hM := fun W (h : Ext w W) => made_yes size A cap n f W hz0 hz1 hn (hs.ext h) hsz hb
    have hres : (fillRes size n f).2 = 0 → sizeB size = true ∧ ((fillRes size n f).1.size : Int) = size ∧ ValidR (fillRes size n f).1 ∧ usedL (fillRes size n f).1 (twoF (fillRes size n f).1 0) = (List.range n).map f := fun h => by
      obtain ⟨h1, h2, h3, h4, h5⟩ := fill_ok h60 h
      obtain ⟨a, b, c⟩ := built_page size.toNat n f h1 h3 (by rw [h4]; exact h2) _ h5
      exact ⟨h2, by rw [a]; exact h4, b, c⟩
    generalize (fillRes size n f).1 = P at *
    generalize (fillRes size n f).2 = e1 at *
    by_cases h0 : e1 = 0
    · subst h0
      obtain ⟨hs1, hs2, hv, hu⟩ := hres rfl
      subst hs2
      have HU := Lib.hid hu
      have HV := Lib.hid hv
      clear hu hv hres
      have hz : 32 ≤ (P.size : Int) ∧ (P.size : Int) ≤ 4096 := by simp [sizeB] at hs1; omega
      go_enter Try.func3, Try.ntmps3
      go_wp2_with (go_at_call 9; refine (hM _ (Ext.refl w)).mono ?_; rintro e w1 ⟨rfl, hx1⟩)
      have hk : ∃ k : Nat, wrap64 ((IntKind.u64.wrap at_).tmod P.size) = k ∧ (k : Int) < P.size := by
        have u0 : 0 ≤ IntKind.u64.wrap at_ := u64_ge at_
        have u1 := Int.tmod_nonneg (P.size : Int) u0
        have u2 := Int.tmod_lt_of_pos (IntKind.u64.wrap at_) (show (0 : Int) < P.size by omega)
        refine ⟨((IntKind.u64.wrap at_).tmod P.size).toNat, ?_, by omega⟩
        rw [IntWalk.wrap64_in _ ⟨by omega, by omega⟩]
        omega
      have hc : ∃ c : Nat, IntKind.u64.wrap (1 + (IntKind.u64.wrap by_).tmod 255) % 256 = c ∧ 1 ≤ c ∧ c ≤ 255 := by
        have u0 : 0 ≤ IntKind.u64.wrap by_ := u64_ge by_
        have u1 := Int.tmod_nonneg 255 u0
        have u2 := Int.tmod_lt_of_pos (IntKind.u64.wrap by_) (show (0 : Int) < 255 by omega)
        refine ⟨(1 + (IntKind.u64.wrap by_).tmod 255).toNat, ?_, by omega, by omega⟩
        rw [IntWalk.u64_in _ ⟨by omega, by omega⟩]
        omega
      obtain ⟨k, hk1, hk2⟩ := hk
      obtain ⟨c, hc1, hc2, hc3⟩ := hc
      rw [hk1, hc1]
      have hkp : k < P.size := by omega
      have hki : (k : Int) < P.size := by omega
      have hw1 : IntKind.i64.wrap ((k : Int) + 1) = k + 1 := IntWalk.i64_in _ ⟨by omega, by omega⟩
      have q1 : (0 : Int) ≤ k := by omega
      have q2 : (k : Int) ≤ P.size := by omega
      have q3 : (0 : Int) ≤ (k : Int) + 1 := by omega
      have q4 : (k : Int) + 1 ≤ P.size := by omega
      have q5 : ((k : Int) + 1).toNat = k + 1 := by omega
      clear hk1 hc1
      obtain ⟨y, hy1, hy2⟩ := xor_byte (P[k]'hkp) c hc2 hc3
      have hy3 : y.toNat ≠ bt P k := by rw [← get_bt P k hkp]; exact hy2
      have hcv : ∀ W : World, (convert 27 9 (.slice (some ⟨W.heap.size, 0, none⟩) 1 1)).run Try.prog (W.alloc (.cells #[.int .u8 y.toNat] 5)).drew = .ok (.string ⟨#[y]⟩) (W.alloc (.cells #[.int .u8 y.toNat] 5)).drew := fun W =>
        run_convert_bytes_back (P := Try.prog) _ 27 9 5 ⟨W.heap.size, 0, none⟩ 1 [y] Try.underlying27 Try.underlying5 Try.underlying9 (fun j hj => by
          obtain rfl : j = 0 := by simpa using hj
          simp [Addr.add])
      have HY := Lib.hid hy3
      clear hy2 hy3
      have hlim : ¬ 9223372036854775807 < min k P.size + 1 := by omega
      have hlim2 : ¬ 9223372036854775807 < min k P.size + 1 + (P.size - (k + 1)) := by omega
      go_region_law (fail)
      all_goals (
        go_wp2_with (fail)
        have hq : P.extract 0 k ++ ⟨#[y]⟩ ++ P.extract (k + 1) P.size = withByte P k y := rfl
        rw [hq]
        have hqs := withByte_size P k y hkp
        have hqn := withByte_ne P k y hkp HY.out
        clear hq hlim hlim2 hcv
        have hx2 : Ext w ((w1.alloc (.cells #[.int .u8 y.toNat] 5)).drew) := (hx1.alloc _).drew
        generalize withByte P k y = Q at *
        generalize (w1.alloc (.cells #[.int .u8 y.toNat] 5)).drew = w2 at *
        by_cases hvq : ValidR Q
        · have hL : usedL Q (twoF Q 0) ≠ (List.range n).map f := fun h => hqn (page_unique hvq HV.out hqs (h.trans HU.out.symm))
          have hQ := fun W => Cells_ok Q W hvq
          have hLl : (usedL Q (twoF Q 0)).length ≤ 200 := Nat.le_trans (usedL_length Q _) hvq.1.2.1
          generalize usedL Q (twoF Q 0) = L at *
          rcases cells_differ L n f hL with hne | ⟨hlen, i0, hi0, heq, hne⟩
          · go_wp2_with (first
              | (go_at_call 11; refine (hQ _).mono ?_; rintro e w3 ⟨B, cb, rfl, hs3, hx3⟩; have hx3' := Ext.trans hx2 hx3)
              | (go_at_call 12; refine (same_len A B cap cb n L.length _ hne hn (by omega)).mono ?_; rintro e w4 ⟨rfl, rfl⟩)
              | (go_at_call 10; refine (awake_any _).mono ?_; rintro e w5 ⟨rfl, hx5⟩))
            go_ret
            exact ⟨rfl, hx3'.trans hx5⟩
          · subst hlen
            go_wp2_with (first
              | (go_at_call 11; refine (hQ _).mono ?_; rintro e w3 ⟨B, cb, rfl, hs3, hx3⟩; have hx3' := Ext.trans hx2 hx3)
              | (go_at_call 12; refine (same_no A B cap cb L.length f _ _ hn (hs.ext (by exact hx3')) hs3 i0 hi0 heq hne).mono ?_; rintro e w4 ⟨rfl, hx4⟩; have hx4' := Ext.trans hx3' hx4)
              | (go_at_call 10; refine (awake_any _).mono ?_; rintro e w5 ⟨rfl, hx5⟩))
            go_ret
            exact ⟨rfl, hx4'.trans hx5⟩
        · go_wp2_with (first
            | (go_at_call 11; refine (Cells_no Q _ (by omega) hvq).mono ?_; rintro e w3 ⟨rfl, hx3⟩; have hx3' := Ext.trans hx2 hx3)
            | (go_at_call 10; refine (awake_any _).mono ?_; rintro e w5 ⟨rfl, hx5⟩))
          go_ret
          exact ⟨rfl, hx3'.trans hx5⟩)
    · have h00 : (e1 == 0) = false := by simpa using h0
      go_enter Try.func3, Try.ntmps3
      go_wp2_with (first
        | (go_at_call 9; refine (hM _ (Ext.refl w)).mono ?_; rintro e w1 ⟨rfl, hx1⟩)
        | (go_at_call 10; refine (awake_any _).mono ?_; rintro e w2 ⟨rfl, hx2⟩))
      go_ret
      exact ⟨rfl, hx1.trans hx2⟩
end Go.Proofs.Ytfinljcembipkaa
