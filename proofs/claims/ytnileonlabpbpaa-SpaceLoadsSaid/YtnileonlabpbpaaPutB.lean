/- page.Put; the room of a page with one line more. -/
import Derived.Test.YtnileonlabpbpaaPut
namespace Go.Proofs.Ytnileonlabpbpaa
open Go.RowKit
set_option linter.unusedVariables false
set_option maxRecDepth 20000

theorem bytesF_ins (f : Nat → Cel) (pos : Nat) (c : Cel) : ∀ n, bytesF (insF f pos c) n = if n ≤ pos then bytesF f n else bytesF f (n - 1) + c.2.size := by
  intro n
  induction n with
  | zero => simp [bytesF]
  | succ n ih =>
    have e : bytesF (insF f pos c) (n + 1) = bytesF (insF f pos c) n + (insF f pos c n).2.size := rfl
    rw [e, ih]
    unfold insF
    by_cases h1 : n < pos
    · rw [if_pos (by omega), if_pos h1, if_pos (by omega)]
      rfl
    · by_cases h2 : n = pos
      · subst h2
        rw [if_pos (by omega), if_neg (by omega), if_pos rfl, if_neg (by omega)]
        rfl
      · rw [if_neg (by omega), if_neg h1, if_neg h2, if_neg (by omega)]
        obtain ⟨d, rfl⟩ : ∃ d, n = d + 1 := ⟨n - 1, by omega⟩
        simp only [Nat.add_sub_cancel]
        have e2 : bytesF f (d + 1) = bytesF f d + (f d).2.size := rfl
        rw [e2]
        omega
theorem lastF_ins {f : Nat → Cel} {n : Nat} {x : Int} {pos : Nat} (hp : PosI n f x pos) (hx : 1 ≤ x) (s : ByteArray) : lastF (insF f pos (x, s)) (n + 1) = if x ≤ lastF f n then lastF f n else x := by
  have hle := hp.le
  unfold lastF
  rw [if_neg (by omega), Nat.add_sub_cancel]
  unfold insF
  by_cases h0 : n = 0
  · subst h0
    obtain rfl : pos = 0 := by omega
    simp
    omega
  · rw [if_neg h0]
    by_cases h1 : n = pos
    · subst h1
      rw [if_neg (by omega), if_pos rfl]
      have := hp.below (n - 1) (by omega)
      rw [if_neg (by omega)]
    · rw [if_neg (by omega), if_neg h1]
      have := hp.above (n - 1) (by omega) (by omega)
      rw [if_pos this]
theorem roomF_ins {f : Nat → Cel} {n : Nat} {x : Int} {pos : Nat} (hp : PosI n f x pos) (hx : 1 ≤ x) (s : ByteArray) (size : Int) :
    roomF size (insF f pos (x, s)) (n + 1) = size - 2 - 4 * (if x ≤ lastF f n then lastF f n else x) - bytesF f n - s.size := by
  have hle := hp.le
  unfold roomF
  have e : bytesF (insF f pos (x, s)) (n + 1) = bytesF f n + s.size := by
    rw [bytesF_ins, if_neg (by omega), Nat.add_sub_cancel]
  rw [lastF_ins hp hx, e]
  omega

/-- what Put gives -/
def putRes (size n : Nat) (f : Nat → Cel) (pos : Nat) (s : ByteArray) : ByteArray × Int × Int :=
  if nextF f n ≤ 200 then (if roomF size (insF f pos (nextF f n, s)) (n + 1) < 0 then (⟨#[]⟩, 0, 13) else (⟨(bufF size (n + 1) (insF f pos (nextF f n, s)) (n + 1)).toArray⟩, nextF f n, 0)) else (⟨#[]⟩, 0, 13)
def put3 (r : ByteArray × Int × Int) : Ending := .returned (.tuple #[.string r.1, .int .i64 r.2.1, .int .i64 r.2.2])
theorem next_miss {f : Nat → Cel} {n pos : Nat} (hg : ¬ AnyBad f n) : ¬ (pos < n ∧ (f pos).1 = (nextF f n : Int)) := fun h => (nextI hg n (Nat.le_refl _)).free pos h.1 h.2

theorem put_empty (p : ByteArray) (s : ByteArray) (w : World) (hv : ValidR p) (hs : s.toList = []) :
    Calls Try.prog 29 #[.string p, .string s] w fun e w' => e = put3 (⟨#[]⟩, 0, 1) ∧ Ext w w' := by
  obtain ⟨z1, z2⟩ := sizes_of hv
  go_enter Try.func29, Try.ntmps29
  go_wp2_with (go_at_call 44; refine (valid_any p _ (by omega)).mono ?_; rintro e w1 ⟨rfl, hx1⟩; rw [decide_eq_true hv])
  go_ret3
  exact ⟨rfl, hx1⟩
theorem put_ok (p : ByteArray) (s : ByteArray) (w : World) (hv : ValidR p) (hs : s.toList ≠ []) (hs2 : s.size ≤ 140737488355328) (pos : Nat) (hp : PosI (cnt p) (cel p) (nextF (cel p) (cnt p)) pos) :
    Calls Try.prog 29 #[.string p, .string s] w fun e w' => e = put3 (putRes p.size (cnt p) (cel p) pos s) ∧ Ext w w' := by
  obtain ⟨z1, z2⟩ := sizes_of hv
  have hs0 : 0 < s.size := by
    rw [ne_eq, toList_nil] at hs
    omega
  have d3 : s.toList.isEmpty = false := by simpa using hs
  clear hs
  have hN := fun W => next_ok p W hv
  have hG := cel_good hv
  have hge := (nextI hG _ (Nat.le_refl _)).ge
  by_cases h2 : nextF (cel p) (cnt p) ≤ 200
  · simp only [h2, if_true] at hN
    have hP := fun W => put_new p (nextF (cel p) (cnt p)) s W hv hs0 hs2 ⟨by omega, by omega⟩ pos hp (next_miss hG)
    unfold putRes
    rw [if_pos h2]
    unfold filledRes at hP
    by_cases hr : roomF p.size (insF (cel p) pos (nextF (cel p) (cnt p), s)) (cnt p + 1) < 0
    · simp only [hr, if_true] at hP ⊢
      go_enter Try.func29, Try.ntmps29
      go_wp2_with (first
        | (go_at_call 44; refine (valid_any p _ (by omega)).mono ?_; rintro e w1 ⟨rfl, hx1⟩; rw [decide_eq_true hv])
        | (go_at_call 45; refine (hN _).mono ?_; rintro e w2 ⟨rfl, hx2⟩)
        | (go_at_call 46; refine (hP _).mono ?_; rintro e w3 ⟨rfl, hx3⟩))
      go_ret3
      exact ⟨rfl, (hx1.trans hx2).trans hx3⟩
    · simp only [hr, if_false] at hP ⊢
      go_enter Try.func29, Try.ntmps29
      go_wp2_with (first
        | (go_at_call 44; refine (valid_any p _ (by omega)).mono ?_; rintro e w1 ⟨rfl, hx1⟩; rw [decide_eq_true hv])
        | (go_at_call 45; refine (hN _).mono ?_; rintro e w2 ⟨rfl, hx2⟩)
        | (go_at_call 46; refine (hP _).mono ?_; rintro e w3 ⟨rfl, hx3⟩))
      go_ret3
      exact ⟨rfl, (hx1.trans hx2).trans hx3⟩
  · simp only [h2, if_false] at hN
    unfold putRes
    rw [if_neg h2]
    go_enter Try.func29, Try.ntmps29
    go_wp2_with (first
      | (go_at_call 44; refine (valid_any p _ (by omega)).mono ?_; rintro e w1 ⟨rfl, hx1⟩; rw [decide_eq_true hv])
      | (go_at_call 45; refine (hN _).mono ?_; rintro e w2 ⟨rfl, hx2⟩))
    go_ret3
    exact ⟨rfl, hx1.trans hx2⟩
end Go.Proofs.Ytnileonlabpbpaa
