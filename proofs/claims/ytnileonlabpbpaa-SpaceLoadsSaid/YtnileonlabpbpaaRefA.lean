/- Contracts of the reference's small functions of layer 6. -/
import Derived.Test.YtnileonlabpbpaaBase
import Derived.Outline
namespace Go.Proofs.Ytnileonlabpbpaa
open Go.RowKit
set_option linter.unusedVariables false
set_option maxRecDepth 20000

abbrev Cel := Int × ByteArray
/-- The slice value 'A, n' reads as the cells f 0, .., f (n - 1). -/
structure SlC (w : World) (A : Option Addr) (n : Nat) (f : Nat → Cel) : Prop where
  at_ : ∀ i, i < n → ∃ b off, A = some ⟨b, off, none⟩ ∧ w.cell? ⟨b, off + i * 2, none⟩ = some (.int .i64 (f i).1) ∧ w.cell? ⟨b, off + i * 2 + 1, none⟩ = some (.string (f i).2)
theorem SlC.ext {w w' : World} {A : Option Addr} {n : Nat} {f : Nat → Cel} (h : SlC w A n f) (he : Ext w w') : SlC w' A n f :=
  ⟨fun i hi => by obtain ⟨b, off, e, h1, h2⟩ := h.at_ i hi; exact ⟨b, off, e, he.cell h1, he.cell h2⟩⟩
theorem SlC.drew {w : World} {A : Option Addr} {n : Nat} {f : Nat → Cel} (h : SlC w A n f) : SlC w.drew A n f := ⟨h.at_⟩

def sizeB (n : Int) : Bool := decide (32 ≤ n) && decide (n ≤ 4096) && (n % 8 == 0)
theorem refSize_any (n : Int) (w : World) (h0 : -9223372036854775808 ≤ n) (h1 : n ≤ 9223372036854775807) :
    Calls Try.prog 19 #[.int .i64 n] w fun e w' => e = .returned (.bool (sizeB n)) ∧ w = w' := by
  by_cases h2 : 32 ≤ n <;> by_cases h3 : n ≤ 4096
  all_goals
    go_enter Try.func19, Try.ntmps19
    go_wp2
    go_ret
    exact ⟨ret_bool (by simp [sizeB]; try omega), rfl⟩

def bytesF (f : Nat → Cel) : Nat → Nat
  | 0 => 0
  | n + 1 => bytesF f n + (f n).2.size
def lastF (f : Nat → Cel) (n : Nat) : Int := if n = 0 then 0 else (f (n - 1)).1

theorem refBytes_any (A : Option Addr) (cap n : Nat) (f : Nat → Cel) (w : World) (hn : n ≤ 200) (hs : SlC w A n f) (hsz : ∀ i, i < n → (f i).2.size ≤ 140737488355328) :
    Calls Try.prog 69 #[.slice A n cap] w fun e w' => e = .returned (.int .i64 (bytesF f n)) ∧ w = w' := by
  go_enter Try.func69, Try.ntmps69
  go_wp2
  go_loop [3, 4] (fun s i => ∃ k : Nat, k ≤ n ∧ bytesF f k ≤ k * 140737488355328 ∧ i = .int .i64 k ∧ s = .int .i64 (bytesF f k)) (fun _ i => n - (intOf i).toNat)
  case atStart => exact ⟨0, by omega, by simp [bytesF], rfl, rfl⟩
  case round =>
    obtain ⟨k, hk, hb, rfl, rfl⟩ := hrel
    by_cases hlt : k < n
    · obtain ⟨b, off, rfl, h1, h2⟩ := hs.at_ k hlt
      have hz := hsz k hlt
      have hmul : k * 140737488355328 ≤ 200 * 140737488355328 := Nat.mul_le_mul_right _ (by omega)
      go_wp2
      go_round
      case rel => exact ⟨k + 1, by omega, by simp only [bytesF]; omega, by go_num, by simp only [bytesF]; go_num⟩
      case measure => simp [intOf]; omega
    · obtain rfl : k = n := by omega
      go_wp2
      go_ret
      exact ⟨rfl, rfl⟩

theorem refLast_any (A : Option Addr) (cap n : Nat) (f : Nat → Cel) (w : World) (hn : n ≤ 4611686018427387904) (hs : SlC w A n f) :
    Calls Try.prog 68 #[.slice A n cap] w fun e w' => e = .returned (.int .i64 (lastF f n)) ∧ w = w' := by
  by_cases h0 : n = 0
  · subst h0
    go_enter Try.func68, Try.ntmps68
    go_wp2
    go_ret
    exact ⟨ret_int (by simp [lastF]), rfl⟩
  · obtain ⟨m, rfl⟩ : ∃ m, n = m + 1 := ⟨n - 1, by omega⟩
    obtain ⟨b, off, rfl, h1, h2⟩ := hs.at_ m (by omega)
    go_enter Try.func68, Try.ntmps68
    go_wp2
    go_ret
    exact ⟨ret_int (by simp [lastF]), rfl⟩

def roomF (size : Int) (f : Nat → Cel) (n : Nat) : Int := size - 2 - 4 * lastF f n - bytesF f n
theorem bytesF_le (f : Nat → Cel) (n : Nat) (hsz : ∀ i, i < n → (f i).2.size ≤ 140737488355328) : bytesF f n ≤ n * 140737488355328 := by
  induction n with
  | zero => simp [bytesF]
  | succ n ih =>
    have := ih (fun i hi => hsz i (by omega))
    have := hsz n (by omega)
    simp only [bytesF]; omega
theorem refRoom_any (size : Int) (A : Option Addr) (cap n : Nat) (f : Nat → Cel) (w : World) (hn : n ≤ 200) (hs : SlC w A n f) (hsz : ∀ i, i < n → (f i).2.size ≤ 140737488355328)
    (hl0 : -4096 ≤ lastF f n) (hl1 : lastF f n ≤ 4096) (hz0 : -4096 ≤ size) (hz1 : size ≤ 4096) :
    Calls Try.prog 55 #[.int .i64 size, .slice A n cap] w fun e w' => e = .returned (.int .i64 (roomF size f n)) ∧ w = w' := by
  have hb := bytesF_le f n hsz
  have hmul : n * 140737488355328 ≤ 200 * 140737488355328 := Nat.mul_le_mul_right _ (by omega)
  go_enter Try.func55, Try.ntmps55
  go_wp2_with (first
    | (go_at_call 68; refine (refLast_any _ _ _ f _ (by omega) hs).mono ?_; rintro e w' ⟨rfl, rfl⟩)
    | (go_at_call 69; refine (refBytes_any _ _ _ f _ hn hs hsz).mono ?_; rintro e w' ⟨rfl, rfl⟩))
  go_ret
  exact ⟨ret_int (by simp [roomF]), rfl⟩

/-- the two bytes of a number from 0 to 65535 -/
def hi8 (n : Nat) : UInt8 := UInt8.ofNat (n / 256)
def lo8 (n : Nat) : UInt8 := UInt8.ofNat (n % 256)
def ent (n : Nat) : List UInt8 := [hi8 n, lo8 n]

def twoF (p : ByteArray) (i : Nat) : Nat := 256 * bt p i + bt p (i + 1)
theorem refTwo2_any (p : ByteArray) (i : Nat) (w : World) (hp : p.size ≤ 140737488355328) (hi : i + 1 < p.size) :
    Calls Try.prog 18 #[.string p, .int .i64 i] w fun e w' => e = .returned (.int .i64 (twoF p i)) ∧ ∃ n, w' = w.drewN n := by
  have h1 : (i : Int) < p.size := by omega
  have h2 : (i : Int) + 1 < p.size := by omega
  have h4 : (0 : Int) ≤ (i : Int) + 1 := by omega
  go_enter Try.func18, Try.ntmps18
  go_wp2
  go_quiet (fail)
  go_wp2
  go_ret
  have b1 := bt_lt p i
  have b2 := bt_lt p (i + 1)
  refine ⟨ret_int ?_, nq, rfl⟩
  simp only [get_bt, twoF, wrap_byte _ b1, wrap_byte _ b2]
  rw [IntWalk.wrap64_in (256 * (bt p i : Int)) ⟨by omega, by omega⟩, IntWalk.wrap64_in _ ⟨by omega, by omega⟩]
  omega
end Go.Proofs.Ytnileonlabpbpaa
