/- Items: whether they are valid, of the reference. -/
import Derived.Test.YtepgpejdnlejnaaDoorItI
namespace Go.Proofs.YtepgpejdnlejnaaDoor
open Go.RowKit
set_option linter.unusedVariables false
set_option linter.unusedSimpArgs false
set_option linter.unusedSectionVars false
set_option maxRecDepth 20000
attribute [local go_sem] Oper.semAt_some

/-- the first item of a name -/
def idxF : List It → ByteArray → Int
  | [], _ => -1
  | x :: l, s => if x.1 = s then 0 else if idxF l s < 0 then -1 else idxF l s + 1
theorem idxF_ge : ∀ (l : List It) (s : ByteArray), -1 ≤ idxF l s ∧ idxF l s < l.length
  | [], _ => by simp [idxF]
  | x :: l, s => by
    have h := idxF_ge l s
    simp only [idxF, List.length_cons]
    split
    · omega
    · split <;> omega
theorem idxF_at : ∀ (l : List It) (s : ByteArray) (k : Nat) (x : It), l[k]? = some x → (∀ (j : Nat) (y : It), j < k → l[j]? = some y → y.1 ≠ s) → x.1 = s → idxF l s = k
  | [], s, k, x, h, _, _ => by simp at h
  | y :: l, s, 0, x, h, _, hs => by
    simp at h
    subst h
    simp [idxF, hs]
  | y :: l, s, k + 1, x, h, hn, hs => by
    have h0 := hn 0 y (by omega) (by simp)
    have ih := idxF_at l s k x (by simpa using h) (fun j z hj hz => hn (j + 1) z (by omega) (by simpa using hz)) hs
    simp only [idxF, if_neg h0, ih]
    rw [if_neg (by omega)]
    omega
theorem idxF_no : ∀ (l : List It) (s : ByteArray), (∀ (j : Nat) (y : It), l[j]? = some y → y.1 ≠ s) → idxF l s = -1
  | [], s, _ => rfl
  | y :: l, s, hn => by
    have h0 := hn 0 y (by simp)
    have ih := idxF_no l s (fun j z hz => hn (j + 1) z (by simpa using hz))
    simp [idxF, if_neg h0, ih]
theorem rindex_any (P : Option Addr) (cap : Nat) (l : List It) (s : ByteArray) (w : World) (h : SlT w P cap l) :
    Calls Tryd.prog 72 #[.slice P l.length cap, .string s] w fun e w' => e = .returned (.int .i64 (idxF l s)) ∧ w' = w := by
  have hlen := h.len
  go_enter Tryd.func72, Tryd.ntmps72
  go_wp2
  go_loopw [5] (fun i wr => ∃ k : Nat, k ≤ l.length ∧ i = .int .i64 k ∧ (∀ (j : Nat) (y : It), j < k → l[j]? = some y → y.1 ≠ s) ∧ wr = w) (fun i _ => l.length - (intOf i).toNat)
  case atStart => exact ⟨0, by omega, rfl, by intro j y hj; omega, rfl⟩
  case round =>
    obtain ⟨k, hk, rfl, hall, rfl⟩ := hrel
    by_cases hlt : k < l.length
    · obtain ⟨b, off, hP, g0, _⟩ := h.itemAt k hlt
      subst hP
      have c1 : (k : Int) < l.length := by omega
      have hs := nthT_some hlt
      have d1 : IntKind.i64.wrap ((k : Int) + 1) = (k : Int) + 1 := IntWalk.i64_in _ ⟨by omega, by omega⟩
      by_cases he : (nthT l k).1 = s
      · have Hn : Hid (idxF l s = k) := Lib.hid (idxF_at l s k _ hs hall he)
        rw [he] at g0
        clear hall hs he
        go_wp2
        go_ret
        exact ⟨by rw [Hn.out]; rfl, rfl⟩
      · have Hy : Hid (∀ (j : Nat) (y : It), j < k + 1 → l[j]? = some y → y.1 ≠ s) := Lib.hid (fun j y hj hy => by
          by_cases hjk : j = k
          · subst hjk; rw [hs] at hy; injection hy with hy; subst hy; exact he
          · exact hall j y (by omega) hy)
        have hl : ¬ (nthT l k).1.toList = s.toList := fun e => he (ByteArray.ext (Array.ext' (by rw [← Lib.toList_data, ← Lib.toList_data]; exact e)))
        have hl1 : decide ((nthT l k).1.toList = s.toList) = false := decide_eq_false hl
        have hl2 : ((nthT l k).1.toList == s.toList) = false := by simpa using hl
        have hl3 : decide ((nthT l k).1 = s) = false := decide_eq_false he
        generalize (nthT l k).1 = t at *
        clear hall hs
        go_wp2
        go_roundw
        case rel => exact ⟨k + 1, by omega, by go_num, Hy.out, by first | trivial | rfl⟩
        case measure => simp [intOf]; omega
    · obtain rfl : k = l.length := by omega
      have Hn : Hid (idxF l s = -1) := Lib.hid (idxF_no l s (fun j y hy => hall j y (List.getElem?_eq_some_iff.1 hy).1 hy))
      clear hall
      go_wp2
      go_ret
      exact ⟨by rw [Hn.out]; rfl, rfl⟩
end Go.Proofs.YtepgpejdnlejnaaDoor
