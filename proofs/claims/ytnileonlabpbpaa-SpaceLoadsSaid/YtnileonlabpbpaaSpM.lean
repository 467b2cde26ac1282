/- Areas: awake. -/
import Derived.Test.YtnileonlabpbpaaSpF
namespace Go.Proofs.Ytnileonlabpbpaa
open Go.RowKit
set_option linter.unusedVariables false
set_option maxRecDepth 20000
set_option linter.unusedSimpArgs false
set_option maxRecDepth 20000

/-- the first line of an empty page -/
theorem put_first (p s : ByteArray) (hv : ValidR p) (h0 : cnt p = 0) (hs : s.toList ≠ []) (hz : (s.size : Int) + 6 ≤ p.size) :
    holdsB p s.size = true ∧ ∃ q, ValidR q ∧ q.size = p.size ∧ (∀ w, Calls Try.prog 29 #[.string p, .string s] w fun e w' => e = put3 (q, 1, 0) ∧ Ext w w') ∧
      (∀ w, Calls Try.prog 31 #[.string q, .int .i64 1] w fun e w' => e = two2 (s, 0) ∧ Ext w w') := by
  have hG := cel_good hv
  obtain ⟨z1, z2⟩ := sizes_of hv
  have hn : nextF (cel p) (cnt p) = 1 := by rw [h0]; rfl
  have hp : PosI (cnt p) (cel p) (nextF (cel p) (cnt p)) 0 := ⟨Nat.zero_le _, fun i hi => by omega, fun i h1 h2 => by omega⟩
  have hs0 : 0 < s.size := by have h := hs; rw [ne_eq, toList_nil] at h; omega
  have hh : holdsB p s.size = true := by
    unfold holdsB topLine
    rw [hn, h0]
    simp [lastF, bytesF]
    omega
  have hh2 := hh
  unfold holdsB topLine at hh2
  simp only [Bool.and_eq_true, decide_eq_true_eq] at hh2
  have hroom := roomF_ins hp (by omega) s p.size
  have hr : ¬ roomF p.size (insF (cel p) 0 (nextF (cel p) (cnt p), s)) (cnt p + 1) < 0 := by
    rw [hroom]
    omega
  have e : putRes p.size (cnt p) (cel p) 0 s = ((filledRes p.size (cnt p + 1) (insF (cel p) 0 (nextF (cel p) (cnt p), s))).1, ((nextF (cel p) (cnt p) : Nat) : Int), 0) := by
    unfold putRes filledRes
    rw [if_pos hh2.1, if_neg hr]
    simp only [hr, if_false]
  obtain ⟨e1, e2, e3, e4⟩ := filled_valid p.size (cnt p + 1) _ (ins_good hG hp ⟨by omega, by omega⟩ (next_miss hG) s hs0) hv.1.1 (by unfold filledRes; rw [if_neg hr])
  refine ⟨hh, _, e2, e1, fun w => ?_, fun w => ?_⟩
  · have := put_ok p s w hv hs (by omega) 0 hp
    rw [e, hn] at this
    rw [hn]
    exact this
  · refine get_rel _ 1 (s, 0) w e2 ⟨by omega, by omega⟩ (.inl ⟨0, by omega, ?_, ?_⟩)
    · rw [e4 0 (by omega)]
      simp [insF, hn]
    · rw [e4 0 (by omega)]
      simp [insF]
set_option maxHeartbeats 1000000 in
theorem sawake_any (w : World) : Calls Try.prog 4 #[] w fun e w' => e = .returned (.bool true) ∧ Ext w w' := by
  have hz : sizeB ((32 : Nat) : Int) = true := by decide
  obtain ⟨hv, hs, hc, _⟩ := newP_ok 32 hz
  have hNew := fun W => newArea_yes 32 2 W hz (by omega) (by omega)
  have h97 : (⟨#[97, 98, 99]⟩ : ByteArray).toList ≠ [] := by rw [ne_eq, toList_nil]; decide
  obtain ⟨hh, q, hqv, hqz, hPut, hGet⟩ := put_first (newP 32) ⟨#[97, 98, 99]⟩ hv hc h97 (by rw [hs]; decide)
  have hl : List.replicate 2 (newP 32) = [newP 32, newP 32] := rfl
  have hF : FindR [newP 32, newP 32] 1 3 (1, 0) := .inl ⟨0, by simp, hh, fun j hj => by omega, by simp⟩
  simp only [hl] at hNew
  have hn1 : nthB [newP 32, newP 32] 1 = newP 32 := rfl
  have hn2 : nthB ([newP 32, newP 32].set 1 q) 1 = q := rfl
  have hl2 : [newP 32, newP 32].set 1 q = [newP 32, q] := rfl
  rw [hs] at hqz
  have hPutA : ∀ A g lv cap W, Sp W A g 32 [newP 32, newP 32] lv cap → Calls Try.prog 9 #[.pointer (some ⟨A, 0, none⟩), .int .i64 1, .string ⟨#[97, 98, 99]⟩] W fun e w' => e = .returned (.tuple #[.agg #[.int .i64 1, .int .i64 1], .int .i64 0]) ∧ (∃ lv', Sp w' A g 32 [newP 32, q] lv' cap) ∧ Chg A g W w' := fun A g lv cap W hS =>
    sput_yes A g 32 cap _ lv 1 ⟨#[97, 98, 99]⟩ W hS h97 1 (by simp) (fun W' hW => find_main A g 32 cap _ lv 1 3 W' hW (by simp) (by omega) (by omega) _ hF) q 1 hqv hqz (fun W' => by rw [hn1]; exact hPut W')
  have hGetA : ∀ A g lv cap W, Sp W A g 32 [newP 32, q] lv cap → Calls Try.prog 10 #[.pointer (some ⟨A, 0, none⟩), .agg #[.int .i64 1, .int .i64 1]] W fun e w' => e = .returned (.tuple #[.string ⟨#[97, 98, 99]⟩, .int .i64 0]) ∧ Ext W w' := fun A g lv cap W hS =>
    sget_in A g 32 cap _ lv 1 1 W hS 1 (by simp) rfl (⟨#[97, 98, 99]⟩, 0) (fun W' => hGet W')
  clear h97 hF hn1 hn2 hl2 hPut hGet hh hl hz hv hs hc hqv hqz
  generalize newP 32 = p at *
  go_enter Try.func4, Try.ntmps4
  go_wp2_with fail
  refine (hNew _).mono ?_
  rintro e w1 ⟨A, g, lv, cap, rfl, hS, hA, hg, hx1⟩
  go_wp2_with fail
  refine (hPutA _ _ _ _ _ hS).mono ?_
  rintro e w2 ⟨rfl, ⟨lv2, hS2⟩, hc2⟩
  have hx2 := Chg.ext hx1 hc2 hA hg
  have hS3 := hS2.ext ((Ext.refl w2).alloc (.cells #[.int .i64 1, .int .i64 1] 37))
  have hx3 := hx2.alloc (.cells #[.int .i64 1, .int .i64 1] 37)
  go_wp2_with (go_at_call 10; refine (hGetA _ _ _ _ _ hS3).mono ?_; rintro e w4 ⟨rfl, hx4⟩; obtain ⟨r0, r1, f0, f1⟩ := addr_box _ _ hx4)
  go_ret
  exact ⟨rfl, hx3.trans hx4⟩
end Go.Proofs.Ytnileonlabpbpaa
