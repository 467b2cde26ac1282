/- PageBack returns true, for all arguments. -/
import Derived.Test.YtfinljcembipkaaChanges
namespace Go.Proofs.Ytfinljcembipkaa
open Go.RowKit
set_option linter.unusedVariables false

theorem lastF_congr {f g : Nat → Cel} {n : Nat} (h : ∀ i, i < n → f i = g i) : lastF f n = lastF g n := by
  unfold lastF
  split
  · rfl
  · rw [h (n - 1) (by omega)]
theorem bufF_congr (size : Nat) {f g : Nat → Cel} {n : Nat} (h : ∀ i, i < n → f i = g i) : ∀ k, k ≤ n → bufF size n f k = bufF size n g k := by
  intro k
  induction k with
  | zero => intro _; unfold bufF; rw [lastF_congr h]
  | succ k ih =>
    intro hk
    unfold bufF
    rw [ih (by omega), h k (by omega), bytesF_congr (k + 1) (fun i hi => h i (by omega))]
theorem filledRes_congr (size : Nat) {f g : Nat → Cel} {n : Nat} (h : ∀ i, i < n → f i = g i) : filledRes size n f = filledRes size n g := by
  have hr : roomF size f n = roomF size g n := by
    unfold roomF
    rw [lastF_congr h, bytesF_congr n h]
  unfold filledRes
  rw [hr, bufF_congr size h n (Nat.le_refl _)]

/-- Put, and Drop of what it put -/
theorem put_back (p s : ByteArray) (hv : ValidR p) (hs2 : s.size ≤ 140737488355328) :
    ∃ r : ByteArray × Int × Int, (∀ w, Calls Try.prog 32 #[.string p, .string s] w fun e w' => e = put3 r ∧ Ext w w') ∧
      (r.2.2 = 0 → ∀ w, Calls Try.prog 33 #[.string r.1, .int .i64 r.2.1] w fun e w' => e = two2 (p, 0) ∧ Ext w w') := by
  by_cases hs : s.toList = []
  · exact ⟨(⟨#[]⟩, 0, 1), fun w => put_empty p s w hv hs, fun h => by cases h⟩
  have hs0 : 0 < s.size := by have h := hs; rw [toList_nil] at h; omega
  have hG := cel_good hv
  obtain ⟨pos, hp⟩ := pos_of hG (nextF (cel p) (cnt p))
  refine ⟨_, fun w => put_ok p s w hv hs hs2 pos hp, fun h0 w => ?_⟩
  have hge := (nextI hG _ (Nat.le_refl _)).ge
  unfold putRes at h0 ⊢
  by_cases h2 : nextF (cel p) (cnt p) ≤ 200
  · rw [if_pos h2] at h0 ⊢
    by_cases hr : roomF p.size (insF (cel p) pos (nextF (cel p) (cnt p), s)) (cnt p + 1) < 0
    · rw [if_pos hr] at h0; cases h0
    · rw [if_neg hr]
      have hle := hp.le
      obtain ⟨e1, e2, e3, e4⟩ := filled_valid p.size (cnt p + 1) _ (ins_good hG hp ⟨by omega, by omega⟩ (next_miss hG) s hs0) hv.1.1 (by unfold filledRes; rw [if_neg hr])
      have eq : (filledRes p.size (cnt p + 1) (insF (cel p) pos (nextF (cel p) (cnt p), s))).1 = ⟨(bufF p.size (cnt p + 1) (insF (cel p) pos (nextF (cel p) (cnt p), s)) (cnt p + 1)).toArray⟩ := by unfold filledRes; rw [if_neg hr]
      rw [eq] at e1 e2 e3 e4
      simp only
      generalize (⟨(bufF p.size (cnt p + 1) (insF (cel p) pos (nextF (cel p) (cnt p), s)) (cnt p + 1)).toArray⟩ : ByteArray) = q at *
      have hat : cel q pos = ((nextF (cel p) (cnt p) : Int), s) := by
        rw [e4 pos (by omega)]
        unfold insF
        rw [if_neg (by omega), if_pos rfl]
      have hp2 : PosI (cnt q) (cel q) (nextF (cel p) (cnt p)) pos := by
        refine ⟨by omega, fun i hi => ?_, fun i h1 h2 => ?_⟩
        · rw [e4 i (by omega)]
          unfold insF
          rw [if_pos hi]
          exact hp.below i hi
        · rw [e4 i (by omega)]
          unfold insF
          rw [if_neg (by omega)]
          split
          · exact Int.le_refl _
          · exact hp.above (i - 1) (by omega) (by omega)
      have hd := drop_hit q (nextF (cel p) (cnt p)) w e2 ⟨by omega, by omega⟩ pos hp2 ⟨by omega, by rw [hat]⟩
      have hc : filledRes q.size (cnt q - 1) (delF (cel q) pos) = (p, 0) := by
        rw [e1, e3, Nat.add_sub_cancel, ← filled_cells hv]
        refine filledRes_congr p.size fun i hi => ?_
        unfold delF
        by_cases h : i < pos
        · rw [if_pos h, e4 i (by omega)]
          unfold insF
          rw [if_pos h]
        · rw [if_neg h, e4 (i + 1) (by omega)]
          unfold insF
          rw [if_neg (by omega), if_neg (by omega), Nat.add_sub_cancel]
      rw [hc] at hd
      exact hd
  · rw [if_neg h2] at h0; cases h0

set_option maxRecDepth 20000 in
set_option maxHeartbeats 8000000 in
theorem back_walk (size : Int) (A : Option Addr) (cap n : Nat) (f : Nat → Cel) (s p : ByteArray) (w : World) (hn : n ≤ 140737488355328) (hs2 : s.size ≤ 5000) (hv : ValidR p) (hcn : cnt p = n) (hce : ∀ i, i < n → cel p i = f i)
    (hM : ∀ w, SlC w A n f → Calls Try.prog 9 #[.int .i64 size, .slice A n cap] w fun e w' => e = .returned (.tuple #[.string p, .bool true]) ∧ Ext w w') (hs : SlC w A n f) :
    Calls Try.prog 7 #[.int .i64 size, .slice A n cap, .string s] w fun e w' => e = .returned (.bool true) ∧ Ext w w' := by
  obtain ⟨⟨q, m, b⟩, hP, hD⟩ := put_back p s hv (by omega)
  have hS : ∀ i, i < n → ∀ W, Calls Try.prog 34 #[.string p, .int .i64 (f i).1, .string (f i).2] W fun e w' => e = .returned (.tuple #[.string p, .int .i64 0]) ∧ Ext W w' := fun i hi W => by
    rw [← hce i hi]
    exact set_old p i W hv (by omega)
  have ne1 : ∀ s : ByteArray, (s.toList != s.toList) = false := fun s => by simp
  have d1 : ¬ (5000 : Int) < s.size := by omega
  have hx0 : Ext w w := Ext.refl w
  simp only [two2, put3] at hP hD
  have HD := Lib.hid hD
  have HS := Lib.hid hS
  clear hD hS hv hcn hce
  by_cases eb : b = 0
  all_goals (
    first | subst eb | (have eb' : (b == 0) = false := by simpa using eb)
    go_enter Try.func7, Try.ntmps7
    go_wp2_with (first
      | (go_at_call 9; refine (hM _ hs).mono ?_; rintro e w1 ⟨rfl, hx1⟩; have k1 := hx0.trans hx1; clear hx1)
      | (go_at_call 32; refine (hP _).mono ?_; rintro e w2 ⟨rfl, hx2⟩; have k2 := k1.trans hx2; clear hx2)
      | (go_at_call 33; refine (HD.out (by first | exact trivial | rfl) _).mono ?_; rintro e w3 ⟨rfl, hx3⟩; have k3 := k2.trans hx3; clear hx3))
    go_loopw [14, 15, 16] (fun i _ _ wr => ∃ k : Nat, k ≤ n ∧ i = .int .i64 k ∧ Ext w wr) (fun i _ _ _ => n - (intOf i).toNat)
    case atStart => exact ⟨0, by omega, rfl, by first | exact k3 | exact k2⟩
    case round =>
      obtain ⟨k, hk, rfl, hx⟩ := hrel
      by_cases hlt : k < n
      · obtain ⟨bb, off, rfl, g1, g2⟩ := hs.at_ k hlt
        have hSk := HS.out k hlt
        have l1 := hx.cell g1
        have l2 := hx.cell g2
        clear g1 g2
        have c1 : (k : Int) < n := by omega
        go_wp2
        go_region_held3 (fun w' => w'.cell? ⟨bb, off + k * 2, none⟩ = some (.int .i64 (f k).1) ∧ w'.cell? ⟨bb, off + k * 2 + 1, none⟩ = some (.string (f k).2)) (go_keep)
          (first | (go_at_call 34; refine (hSk _).mono ?_; rintro e w5 ⟨rfl, hx5⟩; have m1 := hx5.cell (p := ⟨bb, off + k * 2, none⟩) (v := .int .i64 (f k).1) (by exact l1); have m2 := hx5.cell (p := ⟨bb, off + k * 2 + 1, none⟩) (v := .string (f k).2) (by exact l2); have m3 := Ext.trans (Ext.drew hx) hx5))
        go_wp2
        exact ⟨⟨k + 1, by omega, by go_num, m3⟩, by simp [intOf]; omega⟩
      · obtain rfl : k = n := by omega
        go_wp2_with (go_at_call 10; refine (awake_any _).mono ?_; rintro e w9 ⟨rfl, hx9⟩)
        go_ret
        exact ⟨rfl, hx.trans hx9⟩)

set_option maxRecDepth 20000 in
set_option maxHeartbeats 2000000 in
theorem back_any (size : Int) (A : Option Addr) (cap n : Nat) (f : Nat → Cel) (s : ByteArray) (w : World) (hz0 : -9223372036854775808 ≤ size) (hz1 : size ≤ 9223372036854775807) (hn : n ≤ 140737488355328) (hs : SlC w A n f) (hsz : ∀ i, i < n → (f i).2.size ≤ 140737488355328) (hs2 : s.size ≤ 140737488355328) :
    Calls Try.prog 7 #[.int .i64 size, .slice A n cap, .string s] w fun e w' => e = .returned (.bool true) ∧ Ext w w' := by
  rcases made_cases size A cap n f hz0 hz1 hn hsz with hM | ⟨p, hv, hcn, hce, hM⟩
  · go_enter Try.func7, Try.ntmps7
    go_wp2_with (first
      | (go_at_call 9; refine (hM _ hs).mono ?_; rintro e w1 ⟨⟨s1, rfl⟩, hx1⟩)
      | (go_at_call 10; refine (awake_any _).mono ?_; rintro e w2 ⟨rfl, hx2⟩))
    go_ret
    exact ⟨rfl, hx1.trans hx2⟩
  · by_cases h5 : s.size ≤ 5000
    · exact back_walk size A cap n f s p w hn h5 hv hcn hce hM hs
    · have d1 : (5000 : Int) < s.size := by omega
      go_enter Try.func7, Try.ntmps7
      go_wp2_with (first
        | (go_at_call 9; refine (hM _ hs).mono ?_; rintro e w1 ⟨rfl, hx1⟩)
        | (go_at_call 10; refine (awake_any _).mono ?_; rintro e w2 ⟨rfl, hx2⟩))
      go_ret
      exact ⟨rfl, hx1.trans hx2⟩
end Go.Proofs.Ytfinljcembipkaa
