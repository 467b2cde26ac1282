/- Contracts of package page's small functions. -/
import Derived.Test.YtnileonlabpbpaaRefC
namespace Go.Proofs.Ytnileonlabpbpaa
open Go.RowKit
set_option linter.unusedVariables false
set_option maxRecDepth 20000

theorem ofInt_i64 (a : Nat) (ha : a < 9223372036854775808) : (BitVec.ofInt 64 (a : Int)).toNat = a := by
  rw [BitVec.ofInt_natCast, BitVec.toNat_ofNat]; exact Nat.mod_eq_of_lt (by omega)
theorem i64_or_nat (a b : Nat) (ha : a < 9223372036854775808) (hb : b < 9223372036854775808) : bits .or .i64 (a : Int) (b : Int) = ((a ||| b : Nat) : Int) := by
  have hx : a ||| b < 2 ^ 63 := Nat.or_lt_two_pow (by omega) (by omega)
  show IntKind.i64.wrap ((BitVec.ofInt 64 (a : Int) ||| BitVec.ofInt 64 (b : Int)).toNat : Int) = _
  rw [BitVec.toNat_or, ofInt_i64 a ha, ofInt_i64 b hb, IntKind.wrap_i64]
  omega
theorem or_two (a b : Nat) (ha : a < 256) (hb : b < 256) : bits .or .i64 (wrap64 ((a : Int) * 256)) (b : Int) = ((256 * a + b : Nat) : Int) := by
  rw [IntWalk.wrap64_in _ ⟨by omega, by omega⟩]
  have e : (a : Int) * 256 = ((256 * a : Nat) : Int) := by omega
  rw [e, i64_or_nat _ _ (by omega) (by omega)]
  have := Nat.two_pow_add_eq_or_of_lt (i := 8) (b := b) (by omega) a
  simp only [Nat.reducePow] at this
  rw [this]
theorem set_two (L : List UInt8) (k : Nat) (x y : UInt8) (h : k + 2 ≤ L.length) : (L.set k x).set (k + 1) y = splice L k [x, y] := by
  apply List.ext_getElem
  · rw [length_splice _ _ _ (by simpa using h)]; simp
  · intro i h1 h2
    simp only [splice, List.getElem_set]
    simp only [List.length_set] at h1
    by_cases c1 : i < k
    · rw [List.getElem_append_left (by simp; omega)]
      simp [show ¬ k + 1 = i by omega, show ¬ k = i by omega]
    · rw [List.getElem_append_right (by simp; omega)]
      have hk : min k L.length = k := by omega
      by_cases c2 : i = k
      · subst c2
        simp [hk]
      · by_cases c3 : i = k + 1
        · subst c3
          simp [hk]
        · rw [List.getElem_append_right (by simp; omega)]
          simp [hk, show ¬ k + 1 = i by omega, show ¬ k = i by omega]
          congr 1
          omega
theorem hi8_val (n : Nat) (h : n ≤ 65535) : ((hi8 n).toNat : Int) = (n : Int) / 256 := by
  unfold hi8
  have : (UInt8.ofNat (n / 256)).toNat = n / 256 := by simp; omega
  rw [this]; omega
theorem lo8_val (n : Nat) : ((lo8 n).toNat : Int) = (n : Int) % 256 := by
  unfold lo8
  have : (UInt8.ofNat (n % 256)).toNat = n % 256 := by simp
  rw [this]; omega

theorem size_any (n : Int) (w : World) (h0 : -9223372036854775808 ≤ n) (h1 : n ≤ 9223372036854775807) :
    Calls Try.prog 34 #[.int .i64 n] w fun e w' => e = .returned (.bool (sizeB n)) ∧ w = w' := by
  by_cases h2 : 32 ≤ n <;> by_cases h3 : n ≤ 4096
  all_goals
    go_enter Try.func34, Try.ntmps34
    go_wp2
    go_ret
    exact ⟨ret_bool (by simp [sizeB]; try omega), rfl⟩

def lineB (n : Int) : Bool := decide (1 ≤ n) && decide (n ≤ 200)
theorem line_any (n : Int) (w : World) (h0 : -9223372036854775808 ≤ n) (h1 : n ≤ 9223372036854775807) :
    Calls Try.prog 50 #[.int .i64 n] w fun e w' => e = .returned (.bool (lineB n)) ∧ w = w' := by
  by_cases h2 : 1 ≤ n <;> by_cases h3 : n ≤ 200
  all_goals
    go_enter Try.func50, Try.ntmps50
    go_wp2
    go_ret
    exact ⟨ret_bool (by simp [lineB]; try omega), rfl⟩

theorem two_any (p : ByteArray) (i : Nat) (w : World) (hp : p.size ≤ 140737488355328) (hi : i + 1 < p.size) :
    Calls Try.prog 52 #[.string p, .int .i64 i] w fun e w' => e = .returned (.int .i64 (twoF p i)) ∧ ∃ n, w' = w.drewN n := by
  have h1 : (i : Int) < p.size := by omega
  have h2 : (i : Int) + 1 < p.size := by omega
  have h4 : (0 : Int) ≤ (i : Int) + 1 := by omega
  go_enter Try.func52, Try.ntmps52
  go_wp2
  go_quiet (fail)
  go_wp2
  go_ret
  have b1 := bt_lt p i
  have b2 := bt_lt p (i + 1)
  refine ⟨ret_int ?_, nq, rfl⟩
  simp only [get_bt, twoF, wrap_byte _ b1, wrap_byte _ b2]
  rw [or_two _ _ b1 b2]
theorem count_any (p : ByteArray) (w : World) (hp : p.size ≤ 140737488355328) (hi : 1 < p.size) :
    Calls Try.prog 35 #[.string p] w fun e w' => e = .returned (.int .i64 (twoF p 0)) ∧ ∃ n, w' = w.drewN n := by
  go_enter Try.func35, Try.ntmps35
  go_wp2_with (go_at_call 52; refine (two_any p 0 _ hp (by omega)).mono ?_; rintro e w' ⟨rfl, n, rfl⟩)
  go_ret
  exact ⟨rfl, n, rfl⟩
theorem put_any (g : Nat) (L : List UInt8) (cap : Nat) (ai ni : Int) (w : World) (hb : BB w g L) (hl : L.length = cap) (hc : cap ≤ 4096) (ha0 : 0 ≤ ai) (ha : ai + 2 ≤ cap) (hn0 : 0 ≤ ni) (hn : ni ≤ 65535) :
    Calls Try.prog 64 #[.slice (some ⟨g, 0, none⟩) cap cap, .int .i64 ai, .int .i64 ni] w fun e w' => e = .returned (.tuple #[]) ∧ BB w' g (splice L ai.toNat (ent ni.toNat)) ∧ Upd w g w' := by
  obtain ⟨at_, rfl⟩ := Int.eq_ofNat_of_zero_le ha0
  obtain ⟨n, rfl⟩ := Int.eq_ofNat_of_zero_le hn0
  have c1 := hb.cell at_ (by omega)
  have c2 := hb.cell (at_ + 1) (by omega)
  have f1 := hb.frozen at_
  have f2 := hb.frozen (at_ + 1)
  go_enter Try.func64, Try.ntmps64
  go_wp2
  go_end0
  rw [← hi8_val n (by omega), ← lo8_val n]
  refine ⟨rfl, ?_, (Upd.setCell w g at_ _).trans (Upd.setCell _ g (at_ + 1) _)⟩
  have := (hb.set_ at_ (hi8 n)).set_ (at_ + 1) (lo8 n)
  rw [set_two L at_ _ _ (by omega)] at this
  exact this
end Go.Proofs.Ytnileonlabpbpaa
