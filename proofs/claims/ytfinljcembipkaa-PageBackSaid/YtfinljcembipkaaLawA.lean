/- Contracts of page.cells, page.Cells and of the statements' own helpers. -/
import Derived.Test.YtfinljcembipkaaMathB
import Derived.Deep.RegionHeld3
namespace Go.Proofs.Ytfinljcembipkaa
open Go.RowKit
set_option linter.unusedVariables false

/-- cell i of a list -/
def nthC (l : List Cel) (i : Nat) : Cel := l.getD i (0, ⟨#[]⟩)
theorem flatC_get (l : List Cel) : ∀ i, i < l.length → (flatC l)[i * 2]? = some (.int .i64 (nthC l i).1) ∧ (flatC l)[i * 2 + 1]? = some (.string (nthC l i).2) := by
  induction l with
  | nil => intro i hi; simp at hi
  | cons c l ih =>
    intro i hi
    cases i with
    | zero => simp [flatC, nthC]
    | succ i =>
      have := ih i (by simpa using hi)
      have e : (i + 1) * 2 = i * 2 + 1 + 1 := by omega
      rw [e]
      simpa [flatC, nthC] using this
theorem slC_of_row {w : World} {base : Nat} {v : Value} {l : List Cel} (h : w.ownsRow base 45 2 v l.length (flatC l)) : ∃ A cap, v = .slice A l.length cap ∧ SlC w A l.length (nthC l) := by
  rcases h.2 with ⟨hv, h0⟩ | ⟨g, cap, cur, hv, _⟩
  · exact ⟨none, 0, by rw [hv, h0], ⟨fun i hi => by omega⟩⟩
  · subst hv
    refine ⟨some ⟨g, 0, none⟩, cap, rfl, ⟨fun i hi => ⟨g, 0, rfl, ?_, ?_⟩⟩⟩
    · have := h.cellAt (i * 2) (by omega)
      rw [Nat.zero_add, this]; exact (flatC_get l i hi).1
    · have := h.cellAt (i * 2 + 1) (by omega)
      rw [Nat.zero_add, this]; exact (flatC_get l i hi).2

theorem cells_any (p : ByteArray) (w : World) (hv : ValidR p) :
    Calls Try.prog 45 #[.string p] w fun e w' => ∃ A cap, e = .returned (.slice A (usedL p (twoF p 0)).length cap) ∧ SlC w' A (usedL p (twoF p 0)).length (nthC (usedL p (twoF p 0))) ∧ Ext w w' := by
  have hz : 32 ≤ p.size ∧ p.size ≤ 4096 := by have := hv.1.1; simp [sizeB] at this; omega
  have hc : (w.alloc (.cells #[.string p] 9)).cell? ⟨w.heap.size, 0, none⟩ = some (.string p) := (Boxed.new w 9 (.string p)).cell
  have hmf : ∀ (fn : Fn) (first cap : Array Value) (w : World), (Instr.makeFunc fn first cap).run Try.prog w = .ok (.func fn first cap) w := fun _ _ _ _ => rfl
  go_enter Try.func45, Try.ntmps45
  go_wp2_with (go_at_call 69; refine (gather_any p _ _ hz.1 hz.2 hv.1.2.2 hc (fun k hk => slot_le hv k hk)).mono ?_; rintro e w1 ⟨v, rfl, hown, hx⟩)
  obtain ⟨A, cap, rfl, hs⟩ := slC_of_row hown
  go_wp2
  go_ret
  exact ⟨A, cap, rfl, hs, ((Ext.refl w).alloc _).trans hx⟩

theorem Cells_ok (p : ByteArray) (w : World) (hv : ValidR p) :
    Calls Try.prog 11 #[.string p] w fun e w' => ∃ A cap, e = .returned (.tuple #[.slice A (usedL p (twoF p 0)).length cap, .int .i64 0]) ∧ SlC w' A (usedL p (twoF p 0)).length (nthC (usedL p (twoF p 0))) ∧ Ext w w' := by
  have hz : 32 ≤ p.size ∧ p.size ≤ 4096 := by have := hv.1.1; simp [sizeB] at this; omega
  go_enter Try.func11, Try.ntmps11
  go_wp2_with (first
    | (go_at_call 20; refine (valid_any p _ (by omega)).mono ?_; rintro e w1 ⟨rfl, hx1⟩; rw [decide_eq_true hv])
    | (go_at_call 45; refine (cells_any p _ hv).mono ?_; rintro e w2 ⟨A, cap, rfl, hs, hx2⟩))
  go_ret2
  exact ⟨A, cap, rfl, hs, hx1.trans hx2⟩
theorem Cells_no (p : ByteArray) (w : World) (hp : p.size ≤ 140737488355328) (hv : ¬ ValidR p) :
    Calls Try.prog 11 #[.string p] w fun e w' => e = .returned (.tuple #[.slice none 0 0, .int .i64 1]) ∧ Ext w w' := by
  go_enter Try.func11, Try.ntmps11
  go_wp2_with (go_at_call 20; refine (valid_any p _ hp).mono ?_; rintro e w1 ⟨rfl, hx1⟩; rw [decide_eq_false hv])
  go_ret2
  exact ⟨rfl, hx1⟩

/-- cells that are not too large to look at -/
def smallB (n : Nat) (f : Nat → Cel) : Bool := decide (n ≤ 60) && decide (bytesF f n ≤ 6000)
theorem lawCells_any (A : Option Addr) (cap n : Nat) (f : Nat → Cel) (w : World) (hn : n ≤ 140737488355328) (hs : SlC w A n f) (hsz : ∀ i, i < n → (f i).2.size ≤ 140737488355328) :
    Calls Try.prog 13 #[.slice A n cap] w fun e w' => e = .returned (.bool (smallB n f)) ∧ w = w' := by
  by_cases h60 : n ≤ 60
  · go_enter Try.func13, Try.ntmps13
    go_wp2
    go_loop [3, 4] (fun s i => ∃ k : Nat, k ≤ n ∧ bytesF f k ≤ k * 140737488355328 ∧ i = .int .i64 k ∧ s = .int .i64 (bytesF f k)) (fun _ i => n - (intOf i).toNat)
    case atStart => exact ⟨0, by omega, by simp [bytesF], rfl, rfl⟩
    case round =>
      obtain ⟨k, hk, hb, rfl, rfl⟩ := hrel
      by_cases hlt : k < n
      · obtain ⟨b, off, rfl, h1, h2⟩ := hs.at_ k hlt
        have hz := hsz k hlt
        have hb' : bytesF f (k + 1) = bytesF f k + (f k).2.size := rfl
        go_wp2
        go_round
        case rel => exact ⟨k + 1, by omega, by omega, by go_num, by rw [hb']; go_num⟩
        case measure => simp [intOf]; omega
      · obtain rfl : k = n := by omega
        go_wp2
        go_ret
        exact ⟨ret_bool (by simp [smallB, h60]; omega), rfl⟩
  · go_enter Try.func13, Try.ntmps13
    go_wp2
    go_loop [3, 4] (fun s i => ∃ k : Nat, k ≤ n ∧ i = .int .i64 k ∧ ∃ x, s = .int .i64 x) (fun _ i => n - (intOf i).toNat)
    case atStart => exact ⟨0, by omega, rfl, _, rfl⟩
    case round =>
      obtain ⟨k, hk, rfl, x, rfl⟩ := hrel
      by_cases hlt : k < n
      · obtain ⟨b, off, rfl, h1, h2⟩ := hs.at_ k hlt
        go_wp2
        go_round
        case rel => exact ⟨k + 1, by omega, by go_num, _, rfl⟩
        case measure => simp [intOf]; omega
      · obtain rfl : k = n := by omega
        have h6 : ¬ (k : Int) ≤ 60 := by omega
        go_wp2
        go_ret
        exact ⟨ret_bool (by simp [smallB, h60]), rfl⟩

theorem toList_ne {a b : ByteArray} (h : a ≠ b) : (a.toList == b.toList) = false := by
  cases hb : (a.toList == b.toList) with
  | false => rfl
  | true =>
    have he : a.toList = b.toList := eq_of_beq hb
    rw [Lib.toList_data, Lib.toList_data] at he
    exact absurd (ByteArray.ext (Array.toList_inj.1 he)) h
theorem same_len (A B : Option Addr) (ca cb n m : Nat) (w : World) (h : n ≠ m) (hn : n ≤ 140737488355328) (hm : m ≤ 140737488355328) :
    Calls Try.prog 12 #[.slice A n ca, .slice B m cb] w fun e w' => e = .returned (.bool false) ∧ w = w' := by
  have h1 : ((n : Int) != m) = true := by simp; omega
  go_enter Try.func12, Try.ntmps12
  go_wp2
  go_ret
  exact ⟨rfl, rfl⟩

theorem same_yes (A B : Option Addr) (ca cb n : Nat) (f g : Nat → Cel) (w : World) (hn : n ≤ 140737488355328) (hs : SlC w A n f) (ht : SlC w B n g) (h : ∀ i, i < n → f i = g i) :
    Calls Try.prog 12 #[.slice A n ca, .slice B n cb] w fun e w' => e = .returned (.bool true) ∧ Ext w w' := by
  go_enter Try.func12, Try.ntmps12
  go_wp2
  go_loopw [5] (fun i wr => ∃ k : Nat, k ≤ n ∧ i = .int .i64 k ∧ Ext w wr) (fun i _ => n - (intOf i).toNat)
  case atStart => exact ⟨0, by omega, rfl, Ext.refl w⟩
  case round =>
    obtain ⟨k, hk, rfl, her⟩ := hrel
    by_cases hlt : k < n
    · obtain ⟨b, off, rfl, h1, h2⟩ := hs.at_ k hlt
      obtain ⟨b', off', rfl, g1, g2⟩ := ht.at_ k hlt
      have e := h k hlt
      rw [← e] at g1 g2
      replace h1 := her.cell h1
      replace h2 := her.cell h2
      replace g1 := her.cell g1
      replace g2 := her.cell g2
      clear e
      go_wp2
      go_quiet (fail)
      go_wp2
      go_roundw
      case rel => exact ⟨k + 1, by omega, by go_num, her.drewN _⟩
      case measure => simp [intOf]; omega
    · obtain rfl : k = n := by omega
      go_wp2
      go_ret
      exact ⟨rfl, her⟩

theorem same_no (A B : Option Addr) (ca cb n : Nat) (f g : Nat → Cel) (w : World) (hn : n ≤ 140737488355328) (hs : SlC w A n f) (ht : SlC w B n g) (i0 : Nat) (hi0 : i0 < n) (h : ∀ i, i < i0 → f i = g i) (hne : f i0 ≠ g i0) :
    Calls Try.prog 12 #[.slice A n ca, .slice B n cb] w fun e w' => e = .returned (.bool false) ∧ Ext w w' := by
  go_enter Try.func12, Try.ntmps12
  go_wp2
  go_loopw [5] (fun i wr => ∃ k : Nat, k ≤ i0 ∧ i = .int .i64 k ∧ Ext w wr) (fun i _ => n - (intOf i).toNat)
  case atStart => exact ⟨0, by omega, rfl, Ext.refl w⟩
  case round =>
    obtain ⟨k, hk, rfl, her⟩ := hrel
    obtain ⟨b, off, rfl, h1, h2⟩ := hs.at_ k (by omega)
    obtain ⟨b', off', rfl, g1, g2⟩ := ht.at_ k (by omega)
    replace h1 := her.cell h1
    replace h2 := her.cell h2
    replace g1 := her.cell g1
    replace g2 := her.cell g2
    by_cases hlt : k < i0
    · have e := h k hlt
      rw [← e] at g1 g2
      clear e
      go_wp2
      go_quiet (fail)
      go_wp2
      go_roundw
      case rel => exact ⟨k + 1, by omega, by go_num, her.drewN _⟩
      case measure => simp [intOf]; omega
    · obtain rfl : k = i0 := by omega
      by_cases e1 : (f k).1 = (g k).1
      · have e2 : (f k).2 ≠ (g k).2 := fun e2 => hne (Prod.ext e1 e2)
        have d2 : ((f k).2.toList == (g k).2.toList) = false := toList_ne e2
        rw [← e1] at g1
        clear e1 e2 hne h
        go_wp2
        go_quiet (fail)
        go_wp2
        go_ret
        exact ⟨rfl, her.drewN _⟩
      · have d2 : ((f k).1 == (g k).1) = false := by simpa using e1
        clear e1 hne h
        go_wp2
        go_quiet (fail)
        go_wp2
        go_ret
        exact ⟨rfl, her.drewN _⟩

/-- the one cell of the example -/
def awakeF (i : Nat) : Cel := (1, ⟨#[97, 98]⟩)
def awakeP : ByteArray := ⟨#[0, 1, 0, 30, 0, 2, 0, 0, 0, 0, 0, 0, 0, 0, 0, 0, 0, 0, 0, 0, 0, 0, 0, 0, 0, 0, 0, 0, 0, 0, 97, 98]⟩
theorem awake_fill : fillRes 32 1 awakeF = (awakeP, 0) := by
  have h1 : ¬ AnyBad awakeF 1 := by
    rintro ⟨i, hi, hb⟩
    obtain rfl : i = 0 := by omega
    unfold BadF awakeF at hb
    simp at hb
    revert hb
    decide
  have h2 : ¬ sizeB 32 = false := by decide
  have h3 : ¬ roomF 32 awakeF 1 < 0 := by decide
  simp only [fillRes, h1, h2, h3, if_false]
  rfl
theorem fill_awake (A : Option Addr) (w : World) (hs : SlC w A 1 awakeF) :
    Calls Try.prog 16 #[.int .i64 32, .slice A 1 1] w fun e w' => e = .returned (.tuple #[.string awakeP, .int .i64 0]) ∧ Ext w w' :=
  (fill_any 32 A 1 1 awakeF w (by omega) (by omega) (by omega) hs (fun i hi => by show 2 ≤ _; omega) (fun i hi => ⟨by show _ ≤ (1 : Int); omega, by show (1 : Int) ≤ _; omega⟩)).mono fun e w' h => by
    rw [awake_fill] at h
    exact h
theorem awake_any (w : World) : Calls Try.prog 10 #[] w fun e w' => e = .returned (.bool true) ∧ Ext w w' := by
  have q1 : awakeP.size = 32 := rfl
  have q2 : awakeP.extract 0 6 = ⟨#[0, 1, 0, 30, 0, 2]⟩ := rfl
  have q3 : awakeP.extract 30 32 = ⟨#[97, 98]⟩ := rfl
  have hs : ∀ w : World, SlC (w.alloc (.cells #[.int .i64 1, .string ⟨#[97, 98]⟩] 45)) (some ⟨w.heap.size, 0, none⟩) 1 awakeF := fun w => ⟨fun i hi => by
    obtain rfl : i = 0 := by omega
    exact ⟨w.heap.size, 0, rfl, by simp [awakeF], by simp [awakeF]⟩⟩
  go_enter Try.func10, Try.ntmps10
  go_wp2_with (go_at_call 16; refine (fill_awake _ _ (hs _)).mono ?_; rintro e w1 ⟨rfl, hx1⟩; generalize awakeP = P at *)
  go_ret
  exact ⟨rfl, ((Ext.refl w).alloc _).trans hx1⟩

theorem made_yes (size : Int) (A : Option Addr) (cap n : Nat) (f : Nat → Cel) (w : World) (hz0 : -9223372036854775808 ≤ size) (hz1 : size ≤ 9223372036854775807) (hn : n ≤ 140737488355328) (hs : SlC w A n f) (hsz : ∀ i, i < n → (f i).2.size ≤ 140737488355328) (hb : smallB n f = true) :
    Calls Try.prog 9 #[.int .i64 size, .slice A n cap] w fun e w' => e = .returned (.tuple #[.string (fillRes size n f).1, .bool ((fillRes size n f).2 == 0)]) ∧ Ext w w' := by
  have h60 : n ≤ 200 := by simp [smallB] at hb; omega
  go_enter Try.func9, Try.ntmps9
  go_wp2_with (first
    | (go_at_call 13; refine (lawCells_any A cap n f _ hn hs hsz).mono ?_; rintro e w1 ⟨rfl, rfl⟩; rw [hb])
    | (go_at_call 17; refine (refFill_any size A cap n f _ hz0 hz1 h60 hs hsz).mono ?_; rintro e w2 ⟨rfl, hx2⟩))
  go_ret2
  exact ⟨rfl, hx2⟩
theorem made_no (size : Int) (A : Option Addr) (cap n : Nat) (f : Nat → Cel) (w : World) (hn : n ≤ 140737488355328) (hs : SlC w A n f) (hsz : ∀ i, i < n → (f i).2.size ≤ 140737488355328) (hb : smallB n f = false) :
    Calls Try.prog 9 #[.int .i64 size, .slice A n cap] w fun e w' => e = .returned (.tuple #[.string ⟨#[]⟩, .bool false]) ∧ Ext w w' := by
  go_enter Try.func9, Try.ntmps9
  go_wp2_with (go_at_call 13; refine (lawCells_any A cap n f _ hn hs hsz).mono ?_; rintro e w1 ⟨rfl, rfl⟩; rw [hb])
  go_ret2
  exact ⟨rfl, Ext.refl _⟩
end Go.Proofs.Ytfinljcembipkaa
